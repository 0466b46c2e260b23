/- The walk of phased.look; A phase's steps: Grow, Join, Pop -/
import Derived.Test.YtbnipgajhpbolaaGreatDoorTe30
import Derived.WalkSpells
import Derived.Test.YtbnipgajhpbolaaGreatDoorTe31
set_option linter.unusedVariables false
set_option linter.unusedSimpArgs false
namespace Go.Proofs.YtbnipgajhpbolaaGreatDoor

section
open Go.RowKit
section
variable {base N F Q H : Nat} {g : Nat → Nat} {nv mv : Value} {es : List Ed} {mt : Nat → Int} {s s' : Fm} {B B' : Nat → Nat} {qv ev qv' ev' : Value} {ps xs ps' xs' : List Ed} {W W' : World} {P : List Nat}
/-- Next, in a phase. -/
theorem pnext_both (W : World) (hb : base ≤ W.heap.size) (h : PW base N F Q H g nv mv es mt s B qv ev ps xs W) (hq : PQ N es s B P none 0 ps xs) (hN : N ≤ 4096) :
    Calls Tryz.prog 61 #[.pointer (some ⟨F, 0, none⟩)] W fun e w' => ∃ (is : Bool) (v : Nat) (s' : Fm), e = .returned (.tuple #[.int .i64 v, .bool is]) ∧ PW base N F Q H g nv mv es mt s' B qv ev ps xs w' ∧ PQ N es s' B P (if is = true then some v else none) 0 ps xs ∧ (is = false → s'.wl = []) ∧ s'.tu = s.tu ∧ s'.lk = s.lk ∧ s'.rt = s.rt ∧ s'.gn = s.gn ∧ s'.fo B = s.fo B ∧ Mov (PK F g Q H s.wv qv ev) W (PK F g Q H s'.wv qv ev) w' := by
  cases hw : s.wl with
  | nil => exact (fnext_none W h.fg.fw hw).mono fun e w' q => ⟨false, 0, s, q.1, q.2 ▸ h, hq, fun _ => hw, rfl, rfl, rfl, rfl, rfl, q.2 ▸ Mov.refl _ _⟩
  | cons x l =>
    obtain ⟨v, hv, rfl⟩ := hq.wlt x (by rw [hw]; simp)
    have hl := (hq.lkLe (fun v e => by cases e)).2.2.2
    rw [hw] at hl
    simp only [List.length_cons] at hl
    refine (fnext_some W h.fg.fw hw (by omega)).mono fun e w' q => ?_
    obtain ⟨q1, v1, q2, q3⟩ := q
    obtain ⟨k1, k2⟩ := h.fmove (s' := { s with wv := v1, wl := l }) (B' := B) q3.mov ⟨q2, h.fg.ub, h.fg.fo, h.fg.ma, h.fg.tu⟩
    exact ⟨true, v, { s with wv := v1, wl := l }, q1, k1, hq.pop hw, fun q => (by cases q), rfl, rfl, rfl, rfl, rfl, k2⟩
/-- Look, in a phase. -/
theorem plk_any (W : World) (hb : base ≤ W.heap.size) (hm : MR base N mv mt W) (h : PW base N F Q H g nv mv es mt s B qv ev ps xs W) {v w : Nat} (hv : v < N) (hw : w < N) (hN : N ≤ 4096) (hlk : 0 ≤ s.lk ∧ s.lk ≤ 4611686018427387904) :
    Calls Tryz.prog 62 #[.pointer (some ⟨F, 0, none⟩), .int .i64 v, .int .i64 w] W fun e w' => e = .returned (.int .i64 (lookB mt s B v w)) ∧ ∃ up', PW base N F Q H g nv mv es mt { s with up := up', lk := s.lk + 1 } B qv ev ps xs w' ∧ Mov (PK F g Q H s.wv qv ev) W (PK F g Q H s.wv qv ev) w' := by
  obtain ⟨C, d, hub⟩ := h.fg.ub
  refine (flook_any W h.fg.fw hb hm hub.1 hub.2.1 hv hw (by omega) h.fg.rts hlk).mono fun e w' q => ?_
  obtain ⟨q1, up, q2, q3, q4⟩ := q
  obtain ⟨k1, k2⟩ := h.fmove (s' := { s with up := up, lk := s.lk + 1 }) (B' := B) q4.mov ⟨q2, ⟨C, d, q3, hub.2⟩, h.fg.fo, h.fg.ma, h.fg.tu⟩
  exact ⟨q1, up, k1, k2⟩

/-- What a look keeps. -/
structure LS (wb : World) (N F Q H : Nat) (g : Nat → Nat) (nv mv : Value) (es : List Ed) (mt : Nat → Int) (B : Nat → Nat) (s0 : Fm) (qv0 ev0 : Value) (n0 : Nat) (w0 : World) (s : Fm) (qv ev : Value) (ps xs : List Ed) (W : World) : Prop where
  pw : PW wb.heap.size N F Q H g nv mv es mt s B qv ev ps xs W
  tu : s.tu ≤ s.lk
  fo : s.fo B = s0.fo B
  gn : s.gn = s0.gn
  cnt : ps.length = xs.length + n0
  mov : Mov (PK F g Q H s0.wv qv0 ev0) w0 (PK F g Q H s.wv qv ev) W
  bel : Below wb.heap.size wb W
variable {wb w0 : World} {s0 : Fm} {qv0 ev0 : Value} {n0 : Nat}
theorem LS.step (h : LS wb N F Q H g nv mv es mt B s0 qv0 ev0 n0 w0 s qv ev ps xs W) (k : PW wb.heap.size N F Q H g nv mv es mt s' B qv' ev' ps' xs' W') (m : Mov (PK F g Q H s.wv qv ev) W (PK F g Q H s'.wv qv' ev') W') (tu : s'.tu ≤ s'.lk) (fo : s'.fo B = s.fo B) (gn : s'.gn = s.gn) (cnt : ps'.length = xs'.length + n0) : LS wb N F Q H g nv mv es mt B s0 qv0 ev0 n0 w0 s' qv' ev' ps' xs' W' :=
  ⟨k, tu, fo.trans h.fo, gn.trans h.gn, cnt, h.mov.trans m, Below.trans h.bel (m.below (fun k hk => (h.pw.in k hk).1) h.bel.size)⟩

set_option maxHeartbeats 32000000 in
set_option maxRecDepth 100000 in
theorem plook_any {G b0 : Nat} {vs : Nat → Value} (hN : N ≤ 4096) (hE : es.length ≤ 65536) (hr : Rise N es) (hmt : MtOk N (JV es) mt) (hnr : Rows wb G b0 N vs fun v => nearV es v) (hm : MR wb.heap.size N mv mt wb) (hb : Below wb.heap.size wb w0)
    (h : PW wb.heap.size N F Q H g (.slice (some ⟨G, 0, none⟩) N N) mv es mt s B qv ev ps xs w0) (hq : PQ N es s B P none 0 ps xs) (ht : s.tu ≤ s.lk) :
    Calls Tryz.prog 67 #[.pointer (some ⟨H, 0, none⟩)] w0 fun e w' => e = .returned (.tuple #[]) ∧ ∃ s' qv' ev' ps' xs' P', LS wb N F Q H g (.slice (some ⟨G, 0, none⟩) N N) mv es mt B s qv ev (ps.length - xs.length) w0 s' qv' ev' ps' xs' w' ∧ PQ N es s' B P' none 0 ps' xs' ∧ s'.wl = [] := by
  have HM := Lib.hid hm
  have HMT := Lib.hid hmt
  have HNR := Lib.hid hnr
  have HRI := Lib.hid hr
  have hfew := hq.few
  have HLS0 : Hid (LS wb N F Q H g (.slice (some ⟨G, 0, none⟩) N N) mv es mt B s qv ev (ps.length - xs.length) w0 s qv ev ps xs w0) := ⟨h, ht, rfl, rfl, by omega, Mov.refl _ _, hb⟩
  have HQ := Lib.hid hq
  obtain ⟨c0, c1, c2, c3⟩ := h.cells
  have hnx := pnext_both w0 hb.size h hq hN
  generalize hn0 : ps.length - xs.length = n0 at *
  clear hm hmt hnr hr hfew h hq ht hb hn0 c1 c2 c3
  generalize hs0 : s = s0
  generalize hqv0 : qv = qv0
  generalize hev0 : ev = ev0
  rw [hs0, hqv0, hev0] at HLS0 hnx
  rw [hs0] at HQ
  clear hs0 hqv0 hev0
  go_enter Tryz.func67, Tryz.ntmps67
  go_wp2_with fail
  refine hnx.mono ?_
  rintro e w2 ⟨is, v, s2, rfl, a1, a2, a3, a4, a5, a6, a7, a8, a9⟩
  have HLS2 := Lib.hid (HLS0.out.step a1 a9 (by rw [a4, a5]; exact HLS0.out.tu) a8 a7 HLS0.out.cnt)
  have HQ2 : Hid (PQ N es s2 B P (if is = true then some v else none) 0 ps xs ∧ (is = false → s2.wl = [])) := ⟨a2, a3⟩
  clear a1 a2 a3 a4 a5 a6 a7 a8 a9 hnx c0
  go_wp2_with fail
  go_loopg [3, 4] (N - P.length) (fun k tv ti wr => ∃ (is : Bool) (v : Nat) (s : Fm) (qv ev : Value) (ps xs : List Ed) (P : List Nat), tv = .int .i64 v ∧ ti = .bool is ∧ Hid (LS wb N F Q H g (.slice (some ⟨G, 0, none⟩) N N) mv es mt B s0 qv0 ev0 n0 w0 s qv ev ps xs wr) ∧ Hid (PQ N es s B P (if is = true then some v else none) 0 ps xs ∧ (is = false → s.wl = [])) ∧ Hid (k = N - P.length))
  case atStart => exact ⟨is, v, s2, qv0, ev0, ps, xs, P, rfl, rfl, HLS2, HQ2, rfl⟩
  case round =>
    obtain ⟨is, v, s, qv, ev, ps, xs, P, rfl, rfl, hls, hsq, hk⟩ := hrel
    cases is
    · have HSQ : Hid (PQ N es s B P none 0 ps xs ∧ s.wl = []) := ⟨hsq.out.1, hsq.out.2 rfl⟩
      go_wp2_with fail
      go_end0
      exact ⟨rfl, s, qv, ev, ps, xs, hls.out, ⟨P, HSQ.out.1⟩, HSQ.out.2⟩
    · have hcur : PQ N es s B P (some v) 0 ps xs := hsq.out.1
      have hv := (hcur.cw v rfl).1
      have hvi : (0 : Int) ≤ (v : Int) ∧ (v : Int) < (N : Int) := by omega
      obtain ⟨A1, c1, hck0, hrk⟩ := HNR.out.at hv
      have hck := cell_later hls.out.bel hck0
      have HRK := Lib.hid hrk
      have HV := Lib.hid hv
      have HPL : Hid (P.length < N) := by
        have hn : (P ++ [v]).Nodup := by
          rw [List.nodup_append]
          refine ⟨hcur.pn, by simp, fun a ha b hb e => ?_⟩
          have : b = v := by simpa using hb
          subst this
          subst e
          exact (hcur.cw a rfl).2.1 ha
        have := le_nodupN hn fun x hx => by
          rcases List.mem_append.1 hx with hx | hx
          · exact (hcur.pw x hx).1
          · have : x = v := by simpa using hx
            omega
        simp at this
        unfold Hid; omega
      have hNV : ∀ j, j < (nearV es v).length → ∃ y : Nat, y < N ∧ gi (nearV es v) j = y ∧ JV es v y := fun j hj => by
        have hm : gi (nearV es v) j ∈ nearV es v := by rw [gi_at hj]; exact List.getElem_mem _
        have := near_in HRI.out hm
        exact ⟨(gi (nearV es v) j).toNat, by omega, by omega, by show (((gi (nearV es v) j).toNat : Nat) : Int) ∈ _; rw [Int.toNat_of_nonneg (by omega)]; exact hm⟩
      have HNV := Lib.hid hNV
      have HI0 : Hid (LS wb N F Q H g (.slice (some ⟨G, 0, none⟩) N N) mv es mt B s0 qv0 ev0 n0 w0 s qv ev ps xs wr ∧ PQ N es s B P (some v) 0 ps xs) := ⟨hls.out, hcur⟩
      have HLEN : Hid ((nearV es v).length ≤ 131072) := by
        have := degs_le (es := es) (P := [v]) (by simp)
        simp [degs] at this
        unfold Hid; omega
      obtain ⟨x0, x1, x2, x3⟩ := hls.out.pw.cells
      clear hcur hv hrk hNV hck0 x0 x2 x3
      generalize hdeg : (nearV es v).length = dg at *
      go_wp2_with fail
      clear hck x1
      go_loopw [37] (fun i wr => ∃ (j : Nat) (s : Fm) (qv ev : Value) (ps xs : List Ed), j ≤ dg ∧ i = .int .i64 j ∧ Hid (LS wb N F Q H g (.slice (some ⟨G, 0, none⟩) N N) mv es mt B s0 qv0 ev0 n0 w0 s qv ev ps xs wr ∧ PQ N es s B P (some v) j ps xs)) (fun i _ => dg - (intOf i).toNat)
      case atStart => exact ⟨0, s, qv, ev, ps, xs, Nat.zero_le _, rfl, HI0⟩
      case round =>
        obtain ⟨j, s, qv, ev, ps, xs, hj, rfl, hin⟩ := hrel
        by_cases hlt : j < dg
        · have HLT := Lib.hid hlt
          obtain ⟨y, hy, hgy, hjy⟩ := HNV.out j hlt
          obtain ⟨hls1, hsq1⟩ := hin.out
          have hov : s.ou v = true := (hsq1.out v HV.out).2 (.inr (.inr rfl))
          have hyi : (0 : Int) ≤ (y : Int) ∧ (y : Int) < (N : Int) := by omega
          have hji : (0 : Int) ≤ (j : Int) ∧ (j : Int) < (dg : Int) := by omega
          have hj9 : j < 131072 := by have := HLEN.out; omega
          have ew : IntKind.i64.wrap ((j : Int) + 1) = (j : Int) + 1 := by rw [IntKind.wrap_i64]; omega
          obtain ⟨nb, no, rfl, hcn⟩ := (HRK.out.below hls1.bel).2.2 (by omega)
          have hcj := hcn j hlt
          rw [hgy] at hcj
          have hle := hsq1.lkLe (fun u e => by cases e; rw [hdeg]; omega)
          have hlook := plk_any wr hls1.bel.size (HM.out.below hls1.bel) hls1.pw HV.out hy hN ⟨hle.1, by omega⟩
          have HN0 : Hid ((∀ z, s.gn z = false) → lookB mt s B v y = 0 → s.lab y ≠ 0 ∧ (s.ou y = true → B v = B y)) := fun hgn q => FoI.nothing HMT.out hls1.pw.fg.fo HV.out hov hgn q
          have HLS := Lib.hid hls1
          have HSQ := Lib.hid hsq1
          have HX := Lib.hid (And.intro hy (And.intro hgy (And.intro hjy hov)))
          have HLE := Lib.hid hle
          obtain ⟨x0, x1, x2, x3⟩ := hls1.pw.cells
          clear hcn hls1 hsq1 hy hgy hjy hov hle hin hlt hj x1 x2 x3
          generalize hrl : lookB mt s B v y = rl at *
          have HRL : Hid (rl = 0 ∨ (rl = 1 ∧ s.lab y = 0) ∨ (rl = 2 ∧ s.ou y = true)) := by
            rcases look_ways (mt := mt) (s := s) (B := B) (v := v) (w := y) with q | ⟨q, q2⟩ | ⟨q, q2, -⟩
            · exact .inl (hrl.symm.trans q)
            · exact .inr (.inl ⟨hrl.symm.trans q, q2⟩)
            · exact .inr (.inr ⟨hrl.symm.trans q, q2⟩)
          clear hrl
          go_wp2_with fail
          refine hlook.mono ?_
          rintro e w3 ⟨rfl, up3, p3, m3⟩
          have HLS3 : Hid (LS wb N F Q H g (.slice (some ⟨G, 0, none⟩) N N) mv es mt B s0 qv0 ev0 n0 w0 { s with up := up3, lk := s.lk + 1 } qv ev ps xs w3) := HLS.out.step p3 m3 (by show s.tu ≤ s.lk + 1; have := HLS.out.tu; omega) rfl rfl HLS.out.cnt
          have hev1 : ∀ z, z < N → Calls Tryz.prog 85 #[.pointer (some ⟨F, 0, none⟩), .int .i64 z] w3 fun e w' => (∃ x : Int, e = .returned (.int .i64 x)) ∧ w3 = w' := fun z hz => (feven_any w3 HLS3.out.pw.fg.fw hz).mono fun e w' q => ⟨⟨_, q.1⟩, q.2⟩
          have HPU : Hid (∀ t : Int, Calls Tryz.prog 86 #[.pointer (some ⟨H, 0, none⟩), .int .i64 v, .int .i64 y, .int .i64 t] w3 fun e w' => (∃ qv' ev' xs', PW wb.heap.size N F Q H g (.slice (some ⟨G, 0, none⟩) N N) mv es mt { s with up := up3, lk := s.lk + 1 } B qv' ev' (ps ++ [((v : Int), (y : Int))]) xs' w' ∧ xs'.Perm (xs ++ [(t, (ps.length : Int))]) ∧ Mov (PK F g Q H s.wv qv ev) w3 (PK F g Q H s.wv qv' ev') w') ∧ e = .returned (.tuple #[])) := fun t => pput_any v y t w3 HLS3.out.pw HLS3.out.bel.size (by have := HSQ.out.few; have := HLE.out; omega) (by have := HLE.out; omega)
          have hv1 := Lib.hid (hev1 v HV.out)
          have hy1 := Lib.hid (hev1 y HX.out.1)
          clear p3 m3 hlook hcj hev1
          rcases HRL.out with e0 | ⟨e0, -⟩ | ⟨e0, -⟩
          · subst e0
            have HI : Hid (LS wb N F Q H g (.slice (some ⟨G, 0, none⟩) N N) mv es mt B s0 qv0 ev0 n0 w0 { s with up := up3, lk := s.lk + 1 } qv ev ps xs w3 ∧ PQ N es { s with up := up3, lk := s.lk + 1 } B P (some v) (j + 1) ps xs) := ⟨HLS3.out, HSQ.out.skip HX.out.2.1 fun hgn => HN0.out hgn rfl⟩
            go_wp2_with fail
            go_roundw
            case rel => exact ⟨j + 1, _, qv, ev, ps, xs, by have := HLT.out; omega, by go_num, HI⟩
            case measure => have := HLT.out; simp only [intOf, Int.toNat_natCast]; omega
          · subst e0
            go_wp2_with fail
            refine hv1.out.mono ?_
            rintro e w4 ⟨⟨x1, rfl⟩, rfl⟩
            go_wp2_with fail
            refine (HPU.out _).mono ?_
            rintro e w5 ⟨⟨qv5, ev5, xs5, p5, pm5, m5⟩, rfl⟩
            have HI : Hid (LS wb N F Q H g (.slice (some ⟨G, 0, none⟩) N N) mv es mt B s0 qv0 ev0 n0 w0 { s with up := up3, lk := s.lk + 1 } qv5 ev5 (ps ++ [((v : Int), (y : Int))]) xs5 w5 ∧ PQ N es { s with up := up3, lk := s.lk + 1 } B P (some v) (j + 1) (ps ++ [((v : Int), (y : Int))]) xs5) := by
              refine ⟨HLS3.out.step p5 m5 HLS3.out.tu rfl rfl ?_, HSQ.out.push HX.out.2.1 HX.out.1 HX.out.2.2.2 HX.out.2.2.1 pm5⟩
              have h1 := pm5.length_eq
              have h2 := HLS.out.cnt
              simp only [List.length_append, List.length_cons, List.length_nil] at h1 ⊢
              omega
            clear p5 pm5 m5
            go_wp2_with fail
            go_roundw
            case rel => exact ⟨j + 1, _, qv5, ev5, _, xs5, by have := HLT.out; omega, by go_num, HI⟩
            case measure => have := HLT.out; simp only [intOf, Int.toNat_natCast]; omega
          · subst e0
            go_wp2_with fail
            refine hv1.out.mono ?_
            rintro e w4 ⟨⟨x1, rfl⟩, rfl⟩
            go_wp2_with fail
            refine hy1.out.mono ?_
            rintro e w4 ⟨⟨x2, rfl⟩, rfl⟩
            go_wp2_with fail
            refine (HPU.out _).mono ?_
            rintro e w5 ⟨⟨qv5, ev5, xs5, p5, pm5, m5⟩, rfl⟩
            have HI : Hid (LS wb N F Q H g (.slice (some ⟨G, 0, none⟩) N N) mv es mt B s0 qv0 ev0 n0 w0 { s with up := up3, lk := s.lk + 1 } qv5 ev5 (ps ++ [((v : Int), (y : Int))]) xs5 w5 ∧ PQ N es { s with up := up3, lk := s.lk + 1 } B P (some v) (j + 1) (ps ++ [((v : Int), (y : Int))]) xs5) := by
              refine ⟨HLS3.out.step p5 m5 HLS3.out.tu rfl rfl ?_, HSQ.out.push HX.out.2.1 HX.out.1 HX.out.2.2.2 HX.out.2.2.1 pm5⟩
              have h1 := pm5.length_eq
              have h2 := HLS.out.cnt
              simp only [List.length_append, List.length_cons, List.length_nil] at h1 ⊢
              omega
            clear p5 pm5 m5
            go_wp2_with fail
            go_roundw
            case rel => exact ⟨j + 1, _, qv5, ev5, _, xs5, by have := HLT.out; omega, by go_num, HI⟩
            case measure => have := HLT.out; simp only [intOf, Int.toNat_natCast]; omega
        · obtain rfl : j = dg := by omega
          have hd : decide ((j : Int) < (j : Int)) = false := by rw [decide_eq_false_iff_not]; omega
          obtain ⟨hls1, hsq1⟩ := hin.out
          have hsd : PQ N es s B (P ++ [v]) none 0 ps xs := PQ.done (by rw [hdeg]; exact hsq1)
          have hnb := pnext_both wr hls1.bel.size hls1.pw hsd hN
          have HNB := Lib.hid hnb
          have HLS := Lib.hid hls1
          obtain ⟨x0, x1, x2, x3⟩ := hls1.pw.cells
          clear hin hls1 hsq1 hsd hnb hlt hj x1 x2 x3
          go_wp2_with fail
          refine HNB.out.mono ?_
          rintro e w3 ⟨is, v3, s3, rfl, a1, a2, a3, a4, a5, a6, a7, a8, a9⟩
          have HLS3 := Lib.hid (HLS.out.step a1 a9 (by rw [a4, a5]; exact HLS.out.tu) a8 a7 HLS.out.cnt)
          have HSQ3 : Hid (PQ N es s3 B (P ++ [v]) (if is = true then some v3 else none) 0 ps xs ∧ (is = false → s3.wl = [])) := ⟨a2, a3⟩
          have HMS : Hid (N - (P ++ [v]).length < N - P.length) := by have := HPL.out; unfold Hid; simp; omega
          clear a1 a2 a3 a4 a5 a6 a7 a8 a9
          go_wp2_with fail
          go_roundg (N - (P ++ [v]).length)
          case rel => exact ⟨is, v3, s3, qv, ev, ps, xs, P ++ [v], rfl, rfl, HLS3, HSQ3, rfl⟩
          case measure => rw [hk.out]; exact HMS.out
end
end

section
open Go.RowKit
section
variable {base N F Q H : Nat} {g : Nat → Nat} {nv mv : Value} {es : List Ed} {mt : Nat → Int} {s s' : Fm} {B B' : Nat → Nat} {qv ev qv' ev' : Value} {ps xs ps' xs' : List Ed} {W W' : World} {P : List Nat}
/-- Pop, in a phase. -/
theorem ppop_any (W : World) (h : PW base N F Q H g nv mv es mt s B qv ev ps xs W) (hl : xs.length ≤ 200000) :
    Calls Tryz.prog 68 #[.pointer (some ⟨Q, 0, none⟩)] W fun e w' => ∃ (er key val : Int) (qv' : Value) (xs' : List Ed), e = .returned (.tuple #[.agg #[.int .i64 key, .int .i64 val], .int .i64 er]) ∧ PW base N F Q H g nv mv es mt s B qv' ev ps xs' w' ∧ Mov (PK F g Q H s.wv qv ev) W (PK F g Q H s.wv qv' ev) w' ∧ ((er = 16 ∧ xs = [] ∧ xs' = []) ∨ (er = 0 ∧ ((key, val) :: xs').Perm xs)) := by
  cases xs with
  | nil =>
    refine (qpop_nil W h.qw).mono fun e w' q => ?_
    obtain ⟨q1, q2⟩ := q
    exact ⟨16, 0, 0, qv, [], q1, h.later q2, Mov.of q2, .inl ⟨rfl, rfl, rfl⟩⟩
  | cons x ys =>
    simp only [List.length_cons] at hl
    refine (qpop_some W h.qw (by omega)).mono fun e w' q => ?_
    obtain ⟨q1, v', xs', q2, q3, q4⟩ := q
    obtain ⟨k1, k2⟩ := h.qmove q4 q2
    exact ⟨0, x.1, x.2, v', xs', q1, k1, k2, .inr ⟨rfl, List.Perm.cons _ q3⟩⟩

/-- A box of an entry, apart from a phase. -/
def BX (base : Nat) (K : Nat → Prop) (b : Nat) (x y : Int) (W : World) : Prop := W.heap[b]? = some (.cells #[.int .i64 x, .int .i64 y] 132 (0, 0)) ∧ base ≤ b ∧ ¬ K b
theorem BX.mov {K K' : Nat → Prop} {b : Nat} {x y : Int} (h : BX base K b x y W) (m : Mov K W K' W') : BX base K' b x y W' :=
  ⟨(m.block b (blk_lt h.1) h.2.2).trans h.1, h.2.1, fun q => (m.new b q).elim h.2.2 fun q => by have := blk_lt h.1; omega⟩
theorem BX.cells {K : Nat → Prop} {b : Nat} {x y : Int} (h : BX base K b x y W) : W.cell? ⟨b, 0, none⟩ = some (.int .i64 x) ∧ W.cell? ⟨b, 1, none⟩ = some (.int .i64 y) := ⟨(cell_blk h.1 0).trans rfl, (cell_blk h.1 1).trans rfl⟩

/-- What a phase keeps while it takes up edges. -/
structure PS (wb : World) (N F Q H : Nat) (g : Nat → Nat) (nv mv : Value) (es : List Ed) (ms : List Int) (s : Fm) (B : Nat → Nat) (qv ev : Value) (ps xs : List Ed) (out : Value) (L : List (List Int)) (W : World) : Prop where
  pw : PW wb.heap.size N F Q H g nv mv es (gi ms) s B qv ev ps xs W
  tu : s.tu ≤ s.lk
  ow : OW wb.heap.size (PK F g Q H s.wv qv ev) out L W
  outs : Outs N es ms s L
  gon : L = [] → ∀ z, s.gn z = false
  bel : Below wb.heap.size wb W
variable {wb : World} {ms : List Int} {out : Value} {L : List (List Int)}
theorem PS.step (h : PS wb N F Q H g nv mv es ms s B qv ev ps xs out L W) (k : PW wb.heap.size N F Q H g nv mv es (gi ms) s' B' qv' ev' ps' xs' W') (m : Mov (PK F g Q H s.wv qv ev) W (PK F g Q H s'.wv qv' ev') W') (tu : s'.tu ≤ s'.lk) (hr : ∀ z ρ : Nat, z < N → s.rt z = (ρ : Int) → s.gn ρ = true → s'.rt z = (ρ : Int)) (hg : s'.gn = s.gn) : PS wb N F Q H g nv mv es ms s' B' qv' ev' ps' xs' out L W' :=
  ⟨k, tu, h.ow.mov m, h.outs.keep fun z ρ a b c => ⟨hr z ρ a b c, by rw [hg]; exact c⟩, by rw [hg]; exact h.gon, Below.trans h.bel (m.below (fun k hk => (h.pw.in k hk).1) h.bel.size)⟩

/-- An edge is taken up: Grow. -/
theorem pgrow_any (W : World) (hN : N ≤ 4096) (hmt : MtOk N (JV es) (gi ms)) (hm : MR wb.heap.size N mv (gi ms) wb) (h : PS wb N F Q H g nv mv es ms s B qv ev ps xs out L W) {e0 : Ed} {v w k : Nat} {up : Nat → Int} {s1 : Fm} (hs : s = { s1 with up := up, lk := s1.lk + 1 }) (hq : PQ N es s1 B P none 0 ps (e0 :: xs)) (hk : e0.2 = (k : Int)) (he : ge ps k = ((v : Int), (w : Int))) (hv : v < N) (hw : w < N) (ov : s1.ou v = true) (lw : s1.lab w = 0) (hj : JV es v w) :
    Calls Tryz.prog 63 #[.pointer (some ⟨F, 0, none⟩), .int .i64 v, .int .i64 w] W fun e w' => e = .returned (.tuple #[]) ∧ ∃ s' : Fm, PS wb N F Q H g nv mv es ms s' B qv ev ps xs out L w' ∧ PQ N es s' B P none 0 ps xs ∧ Mov (PK F g Q H s.wv qv ev) W (PK F g Q H s'.wv qv ev) w' := by
  subst hs
  have hi : FoI N (JV es) (gi ms) (s1.fo B) := h.pw.fg.fo
  obtain ⟨o1, o2, x, o3, o4, o5⟩ := hi.out w hw lw
  have hvy : v ≠ w := fun q => by
    have h2 : s1.ou w = false := o1
    rw [← q, ov] at h2; cases h2
  have hvx : v ≠ x := fun q => by
    have h2 : s1.ou x = false := (hi.out x o3 o5).1
    rw [← q, ov] at h2; cases h2
  have hwl := (hq.lkLe fun u e => by cases e).2.2.2
  refine (fgrow_any W h.pw.fg.fw h.bel.size (hm.below h.bel) hv hw o3 o4 hvy hvx (by show s1.wl.length ≤ 1000000; omega)).mono ?_
  rintro e w4 ⟨rfl, v1, f4, fr4⟩
  obtain ⟨q4, hfo4⟩ := hq.grow (X := wrap64 (s1.ev v + 2)) (v1 := v1) (up := up) hmt hi hk he ov hw lw o4
  have hg4 := FG.grown (X := wrap64 (s1.ev v + 2)) (v1 := v1) hmt h.pw.fg hv hw ov lw hj o4 hfo4 f4
  obtain ⟨k1, k2⟩ := h.pw.fmove fr4.mov hg4
  refine ⟨rfl, _, h.step k1 k2 h.tu (fun z ρ hz hr hgn => ?_) rfl, q4, k2⟩
  have hr1 : s1.rt z = (ρ : Int) := hr
  have e1 : s1.rt w = -1 := o2
  have e2 : s1.rt x = -1 := (hi.out x o3 o5).2.1
  show upd (upd s1.rt w (s1.rt v)) x (s1.rt v) z = _
  rw [upd_ne _ _ (fun q => by rw [q, e2] at hr1; omega), upd_ne _ _ (fun q => by rw [q, e1] at hr1; omega)]
  exact hr1

/-- An edge is taken up: Join closes a blossom. -/
theorem pclose_any (W : World) (hN : N ≤ 4096) (hE : es.length ≤ 65536) (hmt : MtOk N (JV es) (gi ms)) (hm : MR wb.heap.size N mv (gi ms) wb) (h : PS wb N F Q H g nv mv es ms s B qv ev ps xs out L W) {e0 : Ed} {v w k : Nat} {up : Nat → Int} {s1 : Fm} (hs : s = { s1 with up := up, lk := s1.lk + 1 }) (hq : PQ N es s1 B P none 0 ps (e0 :: xs)) (ht : s1.tu ≤ s1.lk) (hk : e0.2 = (k : Int)) (he : ge ps k = ((v : Int), (w : Int))) (hv : v < N) (hw : w < N) (ov : s1.ou v = true) (ow : s1.ou w = true) (er : s1.rt v = s1.rt w) (hj : JV es v w) :
    Calls Tryz.prog 64 #[.pointer (some ⟨F, 0, none⟩), .int .i64 v, .int .i64 w] W fun e w' => e = .returned (.slice none 0 0) ∧ ∃ (s' : Fm) (B' : Nat → Nat), PS wb N F Q H g nv mv es ms s' B' qv ev ps xs out L w' ∧ PQ N es s' B' P none 0 ps xs ∧ Mov (PK F g Q H s.wv qv ev) W (PK F g Q H s'.wv qv ev) w' := by
  subst hs
  have hi : FoI N (JV es) (gi ms) (s1.fo B) := h.pw.fg.fo
  have hle := hq.lkLe fun u e => by cases e
  refine (fclose_any W h.pw.fg h.bel.size (hm.below h.bel) hmt hv hw ov ow er hj (by omega) (by show s1.tu ≤ _; omega) (by show s1.wl.length + 2 * N ≤ 1000000; omega)).mono ?_
  rintro e w6 ⟨rfl, s6, B6, b, l1, l2, g6, k1, k2, k3, k4, k5, k6, k7, k8, fr6⟩
  have q6 := hq.close (s' := s6) (B' := B6) hmt hi hk he hv hw ov ow k1 k2 k3 k4 k8 k5 k6
  obtain ⟨p1, p2⟩ := h.pw.fmove fr6.mov g6
  refine ⟨rfl, s6, B6, h.step p1 p2 (by rw [k6, k7]; show s1.tu + 1 ≤ s1.lk + 1; omega) (fun z ρ hz hr hgn => ?_) k5, q6, p2⟩
  have : s6.rt = s1.rt := congrArg Fo.rt k4
  rw [this]
  exact hr

/-- An edge is taken up: Join finds a path. -/
theorem ppath_any (W : World) (hN : N ≤ 4096) (hmt : MtOk N (JV es) (gi ms)) (hm : MR wb.heap.size N mv (gi ms) wb) (h : PS wb N F Q H g nv mv es ms s B qv ev ps xs out L W) {e0 : Ed} {v w : Nat} {up : Nat → Int} {s1 : Fm} (hs : s = { s1 with up := up, lk := s1.lk + 1 }) (hq : PQ N es s1 B P none 0 ps (e0 :: xs)) (hv : v < N) (hw : w < N) (ov : s1.ou v = true) (ow : s1.ou w = true) (er : s1.rt v ≠ s1.rt w) (hj : JV es v w) (g1 : s1.goneB v = false) (g2 : s1.goneB w = false) :
    Calls Tryz.prog 64 #[.pointer (some ⟨F, 0, none⟩), .int .i64 v, .int .i64 w] W fun e w' => ∃ GA CA n, e = .returned (.slice (some ⟨GA, 0, none⟩) n CA) ∧ ∃ (s' : Fm) (l : List Int), PW wb.heap.size N F Q H g nv mv es (gi ms) s' B qv ev ps xs w' ∧ s'.tu ≤ s'.lk ∧ OW wb.heap.size (PK F g Q H s'.wv qv ev) out L w' ∧ OwnI w' W.heap.size (.slice (some ⟨GA, 0, none⟩) n CA) l ∧ Outs N es ms s' (L ++ [l]) ∧ PQ N es s' B P none 0 ps xs ∧ Below wb.heap.size wb w' ∧ s'.wv = s.wv ∧ Mov (PK F g Q H s.wv qv ev) W (PK F g Q H s'.wv qv ev) w' := by
  subst hs
  have hi : FoI N (JV es) (gi ms) (s1.fo B) := h.pw.fg.fo
  obtain ⟨r, u, q, q', r1, r2, r3, r4, r5, r6⟩ := FoI.aug (ms := ms) (fun _ _ => rfl) hmt hi hv hw ov ow er hj
  have r1' : s1.rt v = (r : Int) := r1
  have r2' : s1.rt w = (u : Int) := r2
  have hrN : r < N := by obtain ⟨z, a, b⟩ := r5.lt _ r5.fr.1; omega
  have huN : u < N := by obtain ⟨z, a, b⟩ := r5.lt _ r5.fu.1; omega
  have hlq : q.length ≤ 100000 ∧ q'.length ≤ 100000 := by
    have h1 := ints_le r5.nod fun x hx => by
      obtain ⟨z, a, b, -⟩ := r6 x hx
      exact ⟨z, a, b⟩
    simp only [List.length_append, List.length_reverse, List.length_cons, List.length_nil] at h1
    omega
  have gr : s1.gn r = false := by
    unfold Fm.goneB at g1
    rw [r1', Int.toNat_natCast] at g1
    have : ((r : Int) == -1) = false := by simp
    rw [this] at g1
    simpa using g1
  have gu : s1.gn u = false := by
    unfold Fm.goneB at g2
    rw [r2', Int.toNat_natCast] at g2
    have : ((u : Int) == -1) = false := by simp
    rw [this] at g2
    simpa using g2
  refine (fpath_any W h.pw.fg.fw hi h.bel.size (hm.below h.bel) hmt hv hw hrN huN r1 r2 r5.ne r3 r4 hlq).mono ?_
  rintro e w6 ⟨GA, CA, n, rfl, hn6, own6, f6, fr6⟩
  obtain ⟨p1, p2⟩ := h.pw.fmove (s' := { s1 with up := up, lk := s1.lk + 1, gn := upd (upd s1.gn r true) u true }) (B' := B) fr6.mov ⟨f6, h.pw.fg.ub, h.pw.fg.fo, h.pw.fg.ma, h.pw.fg.tu⟩
  exact ⟨GA, CA, n, rfl, _, _, p1, h.tu, h.ow.mov p2, own6, h.outs.add r5 r6 gr gu rfl rfl, hq.takeP, Below.trans h.bel (p2.below (fun k hk => (h.pw.in k hk).1) h.bel.size), rfl, p2⟩

/-- One path more. -/
theorem OW.add {base : Nat} {K : Nat → Prop} {v v1 y : Value} {L : List (List Int)} {l : List Int} {vs : List Value} (h1 : OwnV W base v vs) (h2 : vs.length = L.length) (h3 : ∀ k, v.ownBlock = some k → ¬ K k) (h4 : ∀ j (hj : j < vs.length) (hl : j < L.length), (∃ GA CA n, vs[j] = .slice (some ⟨GA, 0, none⟩) n CA ∧ OwnI W base vs[j] L[j] ∧ ¬ K GA ∧ v.ownBlock ≠ some GA))
    {GA CA n : Nat} (hy : y = .slice (some ⟨GA, 0, none⟩) n CA) (hl : OwnI W base y l) (hg : ¬ K GA) (hne : v.ownBlock ≠ some GA) (hK : ∀ k, K k → k < W.heap.size) (o : OwnV W' base v1 (vs ++ [y])) (gr : W.grownBy W' v.ownBlock) (a : v1.ownBlock = v.ownBlock ∨ v1.ownBlock = some W.heap.size) : OW base K v1 (L ++ [l]) W' := by
  have hb : ∀ (x : Value) (l : List Int), OwnI W base x l → (∀ k, x.ownBlock = some k → v.ownBlock ≠ some k) → OwnI W' base x l := fun x l o hn => o.same fun k e => gr.block k (row_lt o k e) fun q => hn k e q.symm
  have hv1 : ∀ k, k < W.heap.size → v.ownBlock ≠ some k → v1.ownBlock ≠ some k := fun k hk hn e => by
    rcases a with q | q
    · exact hn (q ▸ e)
    · rw [q] at e
      have := Option.some.inj e
      omega
  refine ⟨vs ++ [y], o, by simp [h2], fun k e => ?_, fun j hj hl' => ?_⟩
  · rcases a with q | q
    · exact h3 k (q ▸ e)
    · rw [q] at e
      have e2 := Option.some.inj e
      intro hk
      have := hK k hk
      omega
  · by_cases q : j < vs.length
    · have hLj : j < L.length := by omega
      obtain ⟨GA', CA', n', e, o', g', ne'⟩ := h4 j q hLj
      refine ⟨GA', CA', n', ?_, ?_, g', hv1 GA' ?_ ne'⟩
      · rw [List.getElem_append_left q]; exact e
      · rw [List.getElem_append_left q, List.getElem_append_left hLj]
        exact hb _ _ o' fun k ek => by rw [e] at ek; cases ek; exact ne'
      · rw [e] at o'
        exact row_lt o' GA' rfl
    · have hj' : j = vs.length := by
        simp only [List.length_append, List.length_cons, List.length_nil] at hj
        omega
      subst hj'
      have e1 : (vs ++ [y])[vs.length] = y := by simp
      have e2 : (L ++ [l])[vs.length] = l := by simp [h2]
      refine ⟨GA, CA, n, ?_, ?_, hg, hv1 GA ?_ hne⟩
      · rw [e1]; exact hy
      · rw [e1, e2]
        exact hb y l hl fun k ek => by rw [hy] at ek; cases ek; exact hne
      · rw [hy] at hl
        exact row_lt hl GA rfl
theorem Mov.setNew {K K' : Nat → Prop} {G i : Nat} {x : Value} (m : Mov K W K' W') (h : W.heap.size ≤ G) : Mov K W K' (W'.setCell ⟨G, i, none⟩ x) :=
  ⟨m.os, m.tape, m.output, by have := m.size; simp [World.setCell]; omega, fun k hk hn => (Below.heap_setCell _ _ _ _ (by show k ≠ G; omega)).trans (m.block k hk hn), m.new⟩
theorem PW.off (h : PW base N F Q H g nv mv es mt s B qv ev ps xs W) (e : ∀ k, PK F g Q H s.wv qv ev k → W'.heap[k]? = W.heap[k]?) : PW base N F Q H g nv mv es mt s B qv ev ps xs W' :=
  ⟨h.fg.same fun k hk => e k (.inl hk), h.qw.same fun k hk => e k (.inr (.inl hk)), h.low, (e H (.inr (.inr (.inl rfl)))).trans h.hdr, h.own.same fun k hk => e k (.inr (.inr (.inr hk))), h.dne, h.aq, h.ad, h.qd⟩
/-- An entry has been taken out, into a new box. -/
theorem PS.popped {w5 w6 w7 : World} {x y x' y' : Int} (h : PS wb N F Q H g nv mv es ms s B qv ev ps xs out L w5) (hb : Below w5.heap.size w5 w6) (hn : w6.heap[w5.heap.size]? = some (.cells #[.int .i64 x, .int .i64 y] 132 (0, 0))) (pw : PW wb.heap.size N F Q H g nv mv es (gi ms) s B qv' ev ps xs' w7) (m : Mov (PK F g Q H s.wv qv ev) w6 (PK F g Q H s.wv qv' ev) w7) :
    w7.heap[w5.heap.size]? = some (.cells #[.int .i64 x, .int .i64 y] 132 (0, 0)) ∧ PS wb N F Q H g nv mv es ms s B qv' ev ps xs' out L ((w7.setCell ⟨w5.heap.size, 0, none⟩ (.int .i64 x')).setCell ⟨w5.heap.size, 1, none⟩ (.int .i64 y')) ∧ BX wb.heap.size (PK F g Q H s.wv qv' ev) w5.heap.size x' y' ((w7.setCell ⟨w5.heap.size, 0, none⟩ (.int .i64 x')).setCell ⟨w5.heap.size, 1, none⟩ (.int .i64 y')) := by
  have hnk : ¬ PK F g Q H s.wv qv ev w5.heap.size := fun q => by have := (h.pw.in _ q).2; omega
  have h6 : BX wb.heap.size (PK F g Q H s.wv qv ev) w5.heap.size x y w6 := ⟨hn, h.bel.size, hnk⟩
  have h7 := h6.mov m
  have m7 : Mov (PK F g Q H s.wv qv ev) w5 (PK F g Q H s.wv qv' ev) w7 := (Mov.of hb).trans m
  have m8 := (m7.setNew (i := 0) (x := .int .i64 x') (Nat.le_refl _)).setNew (i := 1) (x := .int .i64 y') (Nat.le_refl _)
  have pw8 : PW wb.heap.size N F Q H g nv mv es (gi ms) s B qv' ev ps xs' ((w7.setCell ⟨w5.heap.size, 0, none⟩ (.int .i64 x')).setCell ⟨w5.heap.size, 1, none⟩ (.int .i64 y')) := pw.off fun k hk => by
    have hne : k ≠ w5.heap.size := fun e => h7.2.2 (e ▸ hk)
    exact (Below.heap_setCell _ _ _ _ (by show k ≠ w5.heap.size; exact hne)).trans (Below.heap_setCell _ _ _ _ (by show k ≠ w5.heap.size; exact hne))
  exact ⟨h7.1, h.step pw8 m8 h.tu (fun z ρ _ hr _ => hr) rfl, Go.Proofs.YtbnipgajhpbolaaGreatDoorW.PrintWords.blk_put (cs := #[.int .i64 x', .int .i64 y]) (Go.Proofs.YtbnipgajhpbolaaGreatDoorW.PrintWords.blk_put (cs := #[.int .i64 x, .int .i64 y]) h7.1 0 _ rfl) 1 _ rfl, h7.2.1, h7.2.2⟩
theorem OW.shape {base : Nat} {K : Nat → Prop} {v : Value} {L : List (List Int)} (h : OW base K v L W) : ∃ A c, v = .slice A L.length c := by
  obtain ⟨vs, h1, h2, -⟩ := h.ex
  obtain ⟨A, c, e⟩ := h1.shape
  exact ⟨A, c, by rw [e, h2]⟩
end
end

end Go.Proofs.YtbnipgajhpbolaaGreatDoor
