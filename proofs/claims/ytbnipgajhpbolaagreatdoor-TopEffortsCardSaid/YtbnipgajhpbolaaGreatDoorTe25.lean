/- The walk of single.Search; queue's heap of entries: who comes first, and turned ones -/
import Derived.Test.YtbnipgajhpbolaaGreatDoorTe24
import Derived.Test.YtbnipgajhpbolaaGreatDoorTe11
import Derived.WalkSpells
import Derived.Test.YtbnipgajhpbolaaGreatDoorTe06
import Derived.Test.YtbnipgajhpbolaaGreatDoorTe18
set_option linter.unusedVariables false
set_option linter.unusedSimpArgs false
namespace Go.Proofs.YtbnipgajhpbolaaGreatDoor

section
open Go.RowKit
section
variable {N : Nat} {es : List Ed}
theorem ints_le {l : List Int} (hn : l.Nodup) (h : ∀ x ∈ l, ∃ z : Nat, z < N ∧ x = z) : l.length ≤ N := by
  have h1 := pigeon (R := fun x y => x = y) (L := l) (L' := sel (fun _ => true) N) hn (fun x hx => by
    obtain ⟨z, a, b⟩ := h x hx
    exact ⟨x, mem_sel.2 ⟨z, a, rfl, b⟩, rfl⟩) (fun x _ y _ z a b => a.trans b.symm)
  exact Nat.le_trans h1 (sel_length _ _)
def cntN (a : Int) : List Nat → Nat
  | [] => 0
  | v :: P => (if (v : Int) = a then 1 else 0) + cntN a P
theorem cntN_le (a : Int) : ∀ {P : List Nat}, P.Nodup → cntN a P ≤ 1
  | [], _ => Nat.zero_le _
  | v :: P, h => by
    rw [List.nodup_cons] at h
    rw [cntN]
    by_cases e : (v : Int) = a
    · rw [if_pos e]
      have key : ∀ {Q : List Nat}, v ∉ Q → cntN a Q = 0 := fun {Q} hq => by
        induction Q with
        | nil => rfl
        | cons u Q ih =>
          simp only [List.mem_cons, not_or] at hq
          rw [cntN, if_neg (by omega), ih hq.2]
      rw [key h.1]
      exact Nat.le_refl _
    · rw [if_neg e]
      have := cntN_le a h.2
      omega
theorem degs_cons (e : Ed) (es : List Ed) : ∀ P, degs (e :: es) P = degs es P + cntN e.1 P + cntN e.2 P
  | [] => rfl
  | v :: P => by
    rw [degs, degs, degs_cons e es P, cntN, cntN]
    have : (nearV (e :: es) v).length = (nearV es v).length + (if (v : Int) = e.1 then 1 else 0) + (if (v : Int) = e.2 then 1 else 0) := by
      unfold nearV lowsE highsE
      simp only [List.length_append, List.length_map, List.filter_cons, beq_iff_eq]
      by_cases a : e.2 = (v : Int) <;> by_cases b : e.1 = (v : Int) <;> simp [a, b, eq_comm] <;> omega
    omega
theorem degs_le : ∀ {es : List Ed} {P : List Nat}, P.Nodup → degs es P ≤ 2 * es.length
  | [], P, _ => by
    have : ∀ P, degs [] P = 0 := fun P => by
      induction P with
      | nil => rfl
      | cons v P ih => rw [degs, ih]; rfl
    rw [this]
    exact Nat.zero_le _
  | e :: es, P, h => by
    have := degs_le (es := es) h
    rw [degs_cons]
    have h1 := cntN_le e.1 h
    have h2 := cntN_le e.2 h
    simp only [List.length_cons]
    omega
theorem SQ.few {s : Fm} {B : Nat → Nat} {P : List Nat} {v i : Nat} (h : SQ N es s B P (some v) i) (hi : i ≤ (nearV es v).length) : (P ++ [v]).Nodup ∧ (P ++ [v]).length ≤ N ∧ 0 ≤ s.lk ∧ s.lk ≤ 2 * es.length ∧ s.wl.length ≤ N := by
  obtain ⟨c1, c2, c3⟩ := h.cw v rfl
  have hn : (P ++ [v]).Nodup := by
    rw [List.nodup_append]
    refine ⟨h.pn, by simp, fun a ha b hb e => ?_⟩
    have : b = v := by simpa using hb
    subst this
    subst e
    exact c2 ha
  refine ⟨hn, le_nodupN hn fun x hx => ?_, ?_, ?_, ints_le h.wn h.wlt⟩
  · rcases List.mem_append.1 hx with hx | hx
    · exact (h.pw x hx).1
    · have : x = v := by simpa using hx
      omega
  · rw [h.lk]; omega
  · have := degs_le (es := es) hn
    rw [degs_app] at this
    rw [h.lk]
    simp [degs] at this ⊢
    omega
theorem SQ.few0 {s : Fm} {B : Nat → Nat} {P : List Nat} (h : SQ N es s B P none 0) : 0 ≤ s.lk ∧ s.lk ≤ 2 * es.length ∧ s.wl.length ≤ N := by
  refine ⟨?_, ?_, ints_le h.wn h.wlt⟩
  · rw [h.lk]; omega
  · have := degs_le (es := es) h.pn
    rw [h.lk]
    simp
    omega
end

section
variable {base N F : Nat} {g : Nat → Nat} {nv mv : Value} {J : Nat → Nat → Prop} {mt : Nat → Int} {s : Fm} {B : Nat → Nat} {W W' : World}
theorem FG.later (h : FG base N F g nv mv J mt s B W) (b : Below W.heap.size W W') : FG base N F g nv mv J mt s B W' := ⟨h.fw.later b, h.ub, h.fo, h.ma, h.tu⟩
theorem FG.rts (h : FG base N F g nv mv J mt s B W) : ∀ z, z < N → s.rt z = -1 ∨ ∃ r : Nat, r < N ∧ s.rt z = r := fun z hz => by
  by_cases e : s.lab z = 0
  · exact .inl (h.fo.out z hz e).2.1
  · obtain ⟨r, a, b, -⟩ := h.fo.rt z hz e
    exact .inr ⟨r, a, b⟩
theorem FG.grown {x v : Nat} {X : Int} {v1 : Value} (hm : MtOk N J mt) (h : FG base N F g nv mv J mt s B W) {w : Nat} (hv : v < N) (hw : w < N) (ov : s.ou v = true) (lw : s.lab w = 0) (e : J v w) (hx : mt w = (x : Int)) (hfo : ((s.grow1 v w x).raise x X 1 v1).fo B = (s.fo B).grow v w x) (hf : FW base N F g nv mv ((s.grow1 v w x).raise x X 1 v1) W') : FG base N F g nv mv J mt ((s.grow1 v w x).raise x X 1 v1) B W' :=
  ⟨hf, h.ub, by rw [hfo]; exact (h.fo.grow hm hv hw ov lw e hx).1, h.ma, h.tu⟩
end

section
variable {base N F : Nat} {g : Nat → Nat} {nv mv : Value} {es : List Ed} {mt : Nat → Int} {s : Fm} {B : Nat → Nat} {P : List Nat}
/-- The next vertex to look from, or none. -/
theorem fnext_both (W : World) (hbs : base ≤ W.heap.size) (h : FG base N F g nv mv (JV es) mt s B W) (hq : SQ N es s B P none 0) (ht : s.tu ≤ s.lk) (hN : N ≤ 4096) :
    Calls Tryz.prog 61 #[.pointer (some ⟨F, 0, none⟩)] W fun e w' => ∃ (is : Bool) (v : Nat) (s' : Fm), e = .returned (.tuple #[.int .i64 v, .bool is]) ∧ FG base N F g nv mv (JV es) mt s' B w' ∧ SQ N es s' B P (if is = true then some v else none) 0 ∧ (is = false → s'.wl = []) ∧ s'.tu ≤ s'.lk ∧ Below base W w' := by
  cases hw : s.wl with
  | nil => exact (fnext_none W h.fw hw).mono fun e w' q => ⟨false, 0, s, q.1, q.2 ▸ h, hq, fun _ => hw, ht, q.2 ▸ Below.refl _ _⟩
  | cons x l =>
    obtain ⟨v, hv, rfl⟩ := hq.wlt x (by rw [hw]; simp)
    have hl := hq.few0.2.2
    rw [hw] at hl
    simp only [List.length_cons] at hl
    refine (fnext_some W h.fw hw (by omega)).mono fun e w' q => ?_
    obtain ⟨q1, v1, q2, q3⟩ := q
    exact ⟨true, v, { s with wv := v1, wl := l }, q1, ⟨q2, h.ub, h.fo, h.ma, h.tu⟩, hq.pop hw, fun q => (by cases q), ht, q3.below h.fw hbs⟩
end

section
variable {N : Nat} {es : List Ed} {ms : List Int}
theorem look_cases {s : Fm} {B : Nat → Nat} {mt : Nat → Int} {v w : Nat} (hg : ∀ z, s.gn z = false) : lookB mt s B v w = 0 ∨ (lookB mt s B v w = 1 ∧ s.lab w = 0) ∨ (lookB mt s B v w = 2 ∧ s.ou w = true ∧ B v ≠ B w) := by
  have ng : ∀ z, s.goneB z = false := fun z => by unfold Fm.goneB; rw [hg]; simp
  unfold lookB
  rw [ng, ng]
  by_cases q : mt v = (w : Int)
  · rw [if_pos q]; exact .inl rfl
  · rw [if_neg q, if_neg (by decide), if_neg (by decide)]
    by_cases e : s.lab w = 0
    · rw [if_pos e]; exact .inr (.inl ⟨rfl, e⟩)
    · rw [if_neg e]
      by_cases o : s.ou w = true ∧ B v ≠ B w
      · rw [if_pos o]; exact .inr (.inr ⟨rfl, o.1, o.2⟩)
      · rw [if_neg o]; exact .inl rfl
theorem SQ.room {s : Fm} {B : Nat → Nat} {P : List Nat} {v i : Nat} (h : SQ N es s B P (some v) i) (hi : i < (nearV es v).length) : s.lk + 1 ≤ 2 * es.length := by
  have hn := (h.few (Nat.le_of_lt hi)).1
  have := degs_le (es := es) hn
  rw [degs_app] at this
  rw [h.lk]
  simp [degs] at this ⊢
  omega
/-- What a search tells. -/
def SearchQ (N : Nat) (es : List Ed) (ms : List Int) (w : World) (e : Ending) (w' : World) : Prop := ∃ (path labels : Value) (lk : Int), e = .returned (.tuple #[path, labels, .int .i64 lk]) ∧ 0 ≤ lk ∧ lk ≤ 2 * es.length ∧ Below w.heap.size w w' ∧
  ((∃ GA CA n l r u, path = .slice (some ⟨GA, 0, none⟩) n CA ∧ labels = .slice none 0 0 ∧ OwnI w' w.heap.size path l ∧ Aug N (JV es) ms l r u) ∨
   (path = .slice none 0 0 ∧ ∃ t l, OwnI w' w.heap.size labels l ∧ FoI N (JV es) (gi ms) t ∧ t.Done N (JV es) ∧ l.length = N ∧ ∀ j, j < N → gi l j = if t.ou j = true then 1 else t.lab j))

set_option maxHeartbeats 32000000 in
set_option maxRecDepth 100000 in
theorem search_any {G b0 mc : Nat} {M : Option Addr} {vs : Nat → Value} (w : World) (hN : N ≤ 4096) (hE : es.length ≤ 65536) (hr : Rise N es) (hms : MatchN N es ms) (hnr : Rows w G b0 N vs fun v => nearV es v) (hm : MR w.heap.size N (.slice M N mc) (gi ms) w) :
    Calls Tryz.prog 50 #[.slice (some ⟨G, 0, none⟩) N N, .slice M N mc] w (SearchQ N es ms w) := by
  have HMT := Lib.hid (jv_ok hr hms)
  have HM := Lib.hid hm
  have HNR := Lib.hid hnr
  have HRI := Lib.hid hr
  have hneq := fun (a : Option Addr) (n c : Nat) (W : World) => Go.run_neq_slice_nil_any (P := Tryz.prog) W 22 3 a n c 0 0 Tryz.underlying22
  have hnew := fnew_any (A := some ⟨G, 0, none⟩) (c := N) (gi ms) w (by omega) hm
  clear hm hnr hr hms
  go_enter Tryz.func50, Tryz.ntmps50
  go_wp2_with fail
  refine hnew.mono ?_
  rintro e w1 ⟨F, g, s0, rfl, hf1, hn1, hb1⟩
  obtain ⟨hq1, hi1, hu1⟩ := SQ.start HMT.out hn1
  have H1 : Hid (FG w.heap.size N F g (.slice (some ⟨G, 0, none⟩) N N) (.slice M N mc) (JV es) (gi ms) s0 (fun z => z) w1) := ⟨hf1, ⟨_, _, hu1⟩, hi1, fun z hz => by rw [(hn1.2.2.1 z).2, hn1.2.2.2.1]; exact Int.le_refl _, by rw [hn1.2.2.2.1]; exact Int.le_refl _⟩
  have HQ1 := Lib.hid hq1
  have HT1 : Hid (s0.tu ≤ s0.lk) := by unfold Hid; rw [hn1.2.2.2.1, hn1.2.2.2.2.1]; exact Int.le_refl _
  have HB1 := Lib.hid hb1
  clear hf1 hn1 hb1 hq1 hi1 hu1 hnew
  go_wp2_with fail
  refine (fnext_both w1 HB1.out.size H1.out HQ1.out HT1.out hN).mono ?_
  rintro e w2 ⟨is, v, s2, rfl, a1, a2, a3, a4, a5⟩
  have HG2 := Lib.hid a1
  have HSQ2 : Hid (SQ N es s2 (fun z => z) [] (if is = true then some v else none) 0 ∧ (is = false → s2.wl = []) ∧ s2.tu ≤ s2.lk) := ⟨a2, a3, a4⟩
  have HB2 : Hid (Below w.heap.size w w2) := Below.trans HB1.out a5
  clear a1 a2 a3 a4 a5
  go_wp2_with fail
  go_loopg [9, 10] (N - ([] : List Nat).length) (fun k tv ti wr => ∃ (is : Bool) (v : Nat) (s : Fm) (B : Nat → Nat) (P : List Nat), tv = .int .i64 v ∧ ti = .bool is ∧ Hid (FG w.heap.size N F g (.slice (some ⟨G, 0, none⟩) N N) (.slice M N mc) (JV es) (gi ms) s B wr) ∧ Hid (SQ N es s B P (if is = true then some v else none) 0 ∧ (is = false → s.wl = []) ∧ s.tu ≤ s.lk) ∧ Hid (Below w.heap.size w wr) ∧ Hid (k = N - P.length))
  case atStart => exact ⟨is, v, s2, _, [], rfl, rfl, HG2, HSQ2, HB2, rfl⟩
  case round =>
    obtain ⟨is, v, s, B, P, rfl, rfl, hg, hsq, hb, hk⟩ := hrel
    cases is
    · -- nothing is left to look from
      have HDN : Hid ((s.fo B).Done N (JV es)) := hsq.out.1.end (hsq.out.2.1 rfl)
      have HLK := Lib.hid hsq.out.1.few0
      have h15 := hg.out.fw.h15
      have hd15 : wr.drew.cell? ⟨F, 15, none⟩ = some (.int .i64 s.lk) := h15
      have HLB := Lib.hid (flabels_any wr.drew (hg.out.fw.later (RW.refl wr).drew) (by omega))
      go_wp2_with fail
      go_region_held3 (fun w' => w'.cell? ⟨F, 15, none⟩ = some (.int .i64 s.lk))
        (first | assumption | exact hd15 | exact cell_later hb9 hd15 | fail)
        (first
          | (go_at_call 65; refine HLB.out.mono ?_; rintro e w9 ⟨vl, ll, rfl, own9, hl9, hg9, hb9⟩)
          | fail)
      have HEND : Hid (OwnI w9 w.heap.size vl ll ∧ Below w.heap.size w w9 ∧ ll.length = N ∧ ∀ j, j < N → gi ll j = s.told j) := ⟨row_weaken own9 hb.out.size, Below.trans hb.out (Below.trans (Below.mono (RW.refl wr).drew hb.out.size) (Below.mono hb9 (by show w.heap.size ≤ wr.heap.size; exact hb.out.size))), hl9, hg9⟩
      have HF := Lib.hid hg.out.fo
      clear own9 hb9 hl9 hg9 h15 hd15
      go_wp2_with fail
      go_ret3
      exact ⟨_, _, _, rfl, HLK.out.1, HLK.out.2.1, HEND.out.2.1, .inr ⟨rfl, s.fo B, ll, HEND.out.1, HF.out, HDN.out, HEND.out.2.2.1, HEND.out.2.2.2⟩⟩
    · have hcur : SQ N es s B P (some v) 0 := hsq.out.1
      have HTU : Hid (s.tu ≤ s.lk) := hsq.out.2.2
      have HC := Lib.hid hcur
      have hv := (hcur.cw v rfl).1
      have hvi : (0 : Int) ≤ (v : Int) ∧ (v : Int) < (N : Int) := by omega
      obtain ⟨A1, c1, hck0, hrk⟩ := HNR.out.at hv
      have hck := cell_later hb.out hck0
      have HRK := Lib.hid hrk
      have HV := Lib.hid hv
      have HPL : Hid (P.length < N) := by
        have := (hcur.few (Nat.zero_le _)).2.1
        simp at this
        unfold Hid; omega
      have HR0 : Hid (RW w w) := RW.refl w
      have hNV : ∀ j, j < (nearV es v).length → ∃ y : Nat, y < N ∧ gi (nearV es v) j = y ∧ JV es v y := fun j hj => by
        have hm : gi (nearV es v) j ∈ nearV es v := by rw [gi_at hj]; exact List.getElem_mem _
        have := near_in HRI.out hm
        exact ⟨(gi (nearV es v) j).toNat, by omega, by omega, by show (((gi (nearV es v) j).toNat : Nat) : Int) ∈ _; rw [Int.toNat_of_nonneg (by omega)]; exact hm⟩
      have HNV := Lib.hid hNV
      have HI0 : Hid (FG w.heap.size N F g (.slice (some ⟨G, 0, none⟩) N N) (.slice M N mc) (JV es) (gi ms) s B wr ∧ SQ N es s B P (some v) 0 ∧ s.tu ≤ s.lk ∧ Below w.heap.size w wr) := ⟨hg.out, hcur, HTU.out, hb.out⟩
      have HLEN : Hid ((nearV es v).length ≤ 131072) := by
        have := degs_le (es := es) (P := [v]) (by simp)
        simp [degs] at this
        unfold Hid; omega
      clear hcur hv hrk hNV hck0
      generalize hdeg : (nearV es v).length = dg at *
      go_wp2_with fail
      clear hck
      go_loopw [35] (fun i wr => ∃ (j : Nat) (s : Fm) (B : Nat → Nat), j ≤ dg ∧ i = .int .i64 j ∧ Hid (FG w.heap.size N F g (.slice (some ⟨G, 0, none⟩) N N) (.slice M N mc) (JV es) (gi ms) s B wr ∧ SQ N es s B P (some v) j ∧ s.tu ≤ s.lk ∧ Below w.heap.size w wr)) (fun i _ => dg - (intOf i).toNat)
      case atStart => exact ⟨0, s, B, Nat.zero_le _, rfl, HI0⟩
      case round =>
        obtain ⟨j, s, B, hj, rfl, hin⟩ := hrel
        by_cases hlt : j < dg
        · have HLT := Lib.hid hlt
          obtain ⟨y, hy, hgy, hjy⟩ := HNV.out j hlt
          obtain ⟨hg1, hsq1, htu1, hb1⟩ := hin.out
          obtain ⟨C, d, hub⟩ := hg1.ub
          have hov : s.ou v = true := (hsq1.out v HV.out).2 (.inr (.inr rfl))
          have hyi : (0 : Int) ≤ (y : Int) ∧ (y : Int) < (N : Int) := by omega
          have hji : (0 : Int) ≤ (j : Int) ∧ (j : Int) < (dg : Int) := by omega
          have hj9 : j < 131072 := by have := HLEN.out; omega
          have ew : IntKind.i64.wrap ((j : Int) + 1) = (j : Int) + 1 := by rw [IntKind.wrap_i64]; omega
          obtain ⟨nb, no, rfl, hcn⟩ := (HRK.out.below hb1).2.2 (by omega)
          have hcj := hcn j hlt
          rw [hgy] at hcj
          have hroom := hsq1.room (by rw [hdeg]; exact hlt)
          have hfew := hsq1.few (by rw [hdeg]; omega)
          have hlook := flook_any wr hg1.fw hb1.size (HM.out.below hb1) hub.1 hub.2.1 HV.out hy (by omega) hg1.rts ⟨hfew.2.2.1, by omega⟩
          have hlc := look_cases (B := B) (mt := gi ms) (v := v) (w := y) hsq1.gn
          have HG := Lib.hid hg1
          have HSQ := Lib.hid hsq1
          have HX := Lib.hid (And.intro hy (And.intro hgy (And.intro hjy hov)))
          have HTB := Lib.hid (And.intro htu1 hb1)
          have HFEW := Lib.hid (And.intro hroom hfew)
          have HUBC := Lib.hid hub.2
          have HLC := Lib.hid hlc
          have HN0 : Hid (lookB (gi ms) s B v y = 0 → s.lab y ≠ 0 ∧ (s.ou y = true → B v = B y)) := fun q => FoI.nothing HMT.out hg1.fo HV.out hov hsq1.gn q
          clear hcn hg1 hsq1 htu1 hb1 hub hy hgy hjy hov hroom hfew hlc hin hlt hj
          generalize lookB (gi ms) s B v y = rl at *
          go_wp2_with fail
          refine hlook.mono ?_
          rintro e w3 ⟨rfl, up3, f3, u3, fr3⟩
          have HB3 : Hid (Below w.heap.size w w3) := Below.trans HTB.out.2 (fr3.below HG.out.fw HTB.out.2.size)
          have HG3 : Hid (FG w.heap.size N F g (.slice (some ⟨G, 0, none⟩) N N) (.slice M N mc) (JV es) (gi ms) { s with up := up3, lk := s.lk + 1 } B w3) := ⟨f3, ⟨C, d, u3, HUBC.out⟩, HG.out.fo, HG.out.ma, HG.out.tu⟩
          clear f3 u3 fr3 hlook hcj
          rcases HLC.out with e0 | ⟨e0, hl0⟩ | ⟨e0, hoy, hBB⟩
          · -- nothing
            have k0 := HN0.out e0
            subst e0
            have HI : Hid (FG w.heap.size N F g (.slice (some ⟨G, 0, none⟩) N N) (.slice M N mc) (JV es) (gi ms) { s with up := up3, lk := s.lk + 1 } B w3 ∧ SQ N es { s with up := up3, lk := s.lk + 1 } B P (some v) (j + 1) ∧ s.tu ≤ s.lk + 1 ∧ Below w.heap.size w w3) := ⟨HG3.out, HSQ.out.skip HX.out.2.1 ⟨k0.1, fun o => .inr (k0.2 o)⟩, by have := HTB.out.1; omega, HB3.out⟩
            clear k0
            go_wp2_with fail
            go_roundw
            case rel => exact ⟨j + 1, _, B, by have := HLT.out; omega, by go_num, HI⟩
            case measure => have := HLT.out; simp only [intOf, Int.toNat_natCast]; omega
          · -- a vertex more
            subst e0
            obtain ⟨o1, o2, x, o3, o4, o5⟩ := HG.out.fo.out y HX.out.1 hl0
            have hvy : v ≠ y := fun q => by
              have h2 : s.ou y = false := o1
              rw [← q, HX.out.2.2.2] at h2; cases h2
            have hvx : v ≠ x := fun q => by
              have h2 : s.ou x = false := (HG.out.fo.out x o3 o5).1
              rw [← q, HX.out.2.2.2] at h2; cases h2
            have hgr := fgrow_any w3 HG3.out.fw HB3.out.size (HM.out.below HB3.out) HV.out HX.out.1 o3 o4 hvy hvx (by show s.wl.length ≤ 1000000; have := HFEW.out.2.2.2.2.2; omega)
            have HGR := Lib.hid hgr
            have HOO := Lib.hid (And.intro hl0 (And.intro o3 o4))
            clear hgr o1 o2 o3 o4 o5 hvy hvx hl0
            go_wp2_with fail
            refine HGR.out.mono ?_
            rintro e w4 ⟨rfl, v1, f4, fr4⟩
            obtain ⟨q4, hfo4⟩ := HSQ.out.grow (X := wrap64 (s.ev v + 2)) (v1 := v1) (up := up3) HMT.out HG.out.fo HX.out.2.1 HX.out.1 HOO.out.1 HOO.out.2.2
            have hg4 := FG.grown (X := wrap64 (s.ev v + 2)) (v1 := v1) HMT.out HG3.out HV.out HX.out.1 HX.out.2.2.2 HOO.out.1 HX.out.2.2.1 HOO.out.2.2 hfo4 f4
            have HI : Hid (FG w.heap.size N F g (.slice (some ⟨G, 0, none⟩) N N) (.slice M N mc) (JV es) (gi ms) ((({ s with up := up3, lk := s.lk + 1 } : Fm).grow1 v y x).raise x (wrap64 (s.ev v + 2)) 1 v1) B w4 ∧ SQ N es ((({ s with up := up3, lk := s.lk + 1 } : Fm).grow1 v y x).raise x (wrap64 (s.ev v + 2)) 1 v1) B P (some v) (j + 1) ∧ s.tu ≤ s.lk + 1 ∧ Below w.heap.size w w4) := ⟨hg4, q4, by have := HTB.out.1; omega, Below.trans HB3.out (Fr.below (s := { s with up := up3, lk := s.lk + 1 }) fr4 HG3.out.fw HB3.out.size)⟩
            clear f4 fr4 q4 hfo4 hg4
            go_wp2_with fail
            go_roundw
            case rel => exact ⟨j + 1, _, B, by have := HLT.out; omega, by go_num, HI⟩
            case measure => have := HLT.out; simp only [intOf, Int.toNat_natCast]; omega
          · -- two outer ones
            subst e0
            have hbb : ((B v : Int) == (B y : Int)) = false := by simp; omega
            obtain ⟨C3, d3, u3⟩ := HG3.out.ub
            have HU3 := Lib.hid u3
            have HOY := Lib.hid hoy
            clear hBB u3 hoy
            go_wp2_with fail
            refine (fbase_any w3 HG3.out.fw HU3.out.1 HV.out (by omega) (HU3.out.2.1 v HV.out)).mono ?_
            rintro e w4 ⟨rfl, up4, f4, u4, fr4⟩
            have HB4 : Hid (Below w.heap.size w w4) := Below.trans HB3.out (Fr.below (s := { s with up := up3, lk := s.lk + 1 }) fr4 HG3.out.fw HB3.out.size)
            have H4 := Lib.hid (And.intro f4 u4)
            clear f4 u4 fr4
            go_wp2_with fail
            refine (fbase_any w4 H4.out.1 H4.out.2 HX.out.1 (by omega) (HU3.out.2.1 y HX.out.1)).mono ?_
            rintro e w5 ⟨rfl, up5, f5, u5, fr5⟩
            have HB5 : Hid (Below w.heap.size w w5) := Below.trans HB4.out (Fr.below (s := { s with up := up4, lk := s.lk + 1 }) fr5 H4.out.1 HB4.out.size)
            have HG5 : Hid (FG w.heap.size N F g (.slice (some ⟨G, 0, none⟩) N N) (.slice M N mc) (JV es) (gi ms) { s with up := up5, lk := s.lk + 1 } B w5) := ⟨f5, ⟨C3, d3, u5, HU3.out.2⟩, HG.out.fo, HG.out.ma, HG.out.tu⟩
            clear f5 u5 fr5
            by_cases hrt : s.rt v = s.rt y
            · have hcl := fclose_any w5 HG5.out HB5.out.size (HM.out.below HB5.out) HMT.out HV.out HX.out.1 HX.out.2.2.2 HOY.out hrt HX.out.2.2.1 (by omega) (by show s.tu ≤ _; have := HTB.out.1; have := HFEW.out.1; omega) (by show s.wl.length + 2 * N ≤ 1000000; have := HFEW.out.2.2.2.2.2; omega)
              have HCL := Lib.hid hcl
              clear hcl hrt
              go_wp2_with fail
              refine HCL.out.mono ?_
              rintro e w6 ⟨rfl, s6, B6, b, l1, l2, g6, k1, k2, k3, k4, k5, k6, k7, k8, fr6⟩
              have q6 := HSQ.out.close (s' := s6) (B' := B6) HMT.out HG.out.fo HX.out.2.1 HX.out.1 HX.out.2.2.2 HOY.out k1 k2 k3 k4 k8 k5 k6
              have HI : Hid (FG w.heap.size N F g (.slice (some ⟨G, 0, none⟩) N N) (.slice M N mc) (JV es) (gi ms) s6 B6 w6 ∧ SQ N es s6 B6 P (some v) (j + 1) ∧ s6.tu ≤ s6.lk ∧ Below w.heap.size w w6) := ⟨g6, q6, by rw [k6, k7]; show s.tu + 1 ≤ s.lk + 1; have := HTB.out.1; omega, Below.trans HB5.out (Fr.below (s := { s with up := up5, lk := s.lk + 1 }) fr6 HG5.out.fw HB5.out.size)⟩
              clear g6 k1 k2 k3 k4 k5 k6 k7 k8 fr6 q6
              go_wp2_with fail
              go_roundw
              case rel => exact ⟨j + 1, s6, B6, by have := HLT.out; omega, by go_num, HI⟩
              case measure => have := HLT.out; simp only [intOf, Int.toNat_natCast]; omega
            · obtain ⟨r, u, q, q', r1, r2, r3, r4, r5, r6⟩ := FoI.aug (ms := ms) (fun _ _ => rfl) HMT.out HG.out.fo HV.out HX.out.1 HX.out.2.2.2 HOY.out hrt HX.out.2.2.1
              have hrN : r < N := by obtain ⟨z, a, b⟩ := r5.lt _ r5.fr.1; omega
              have huN : u < N := by obtain ⟨z, a, b⟩ := r5.lt _ r5.fu.1; omega
              have hlq : q.length ≤ 100000 ∧ q'.length ≤ 100000 := by
                have h1 := ints_le r5.nod fun x hx => by
                  obtain ⟨z, a, b, -⟩ := r6 x hx
                  exact ⟨z, a, b⟩
                simp only [List.length_append, List.length_reverse, List.length_cons, List.length_nil] at h1
                omega
              have hpa := fpath_any w5 HG5.out.fw HG.out.fo HB5.out.size (HM.out.below HB5.out) HMT.out HV.out HX.out.1 hrN huN r1 r2 r5.ne r3 r4 hlq
              have HPA := Lib.hid hpa
              have HAU := Lib.hid r5
              clear hpa r1 r2 r3 r4 r5 r6 hrN huN hlq hrt
              go_wp2_with fail
              refine HPA.out.mono ?_
              rintro e w6 ⟨GA, CA, n, rfl, hn6, own6, f6, fr6⟩
              have HO6 := Lib.hid (row_weaken own6 HB5.out.size)
              have HB6 : Hid (Below w.heap.size w w6) := Below.trans HB5.out (Fr.below (s := { s with up := up5, lk := s.lk + 1 }) fr6 HG5.out.fw HB5.out.size)
              have h15 := f6.h15
              dsimp only at h15
              have HLK : Hid (0 ≤ s.lk + 1 ∧ s.lk + 1 ≤ 2 * es.length) := by have := HFEW.out; unfold Hid; omega
              clear own6 f6 fr6 hn6
              go_wp2_with fail
              go_quiet (fail)
              rename_i nq
              have HD : Hid (RW w6 (w6.drewN nq)) := ((Drawn.refl w6).step nq).below _
              have HEND : Hid (OwnI (w6.drewN nq) w.heap.size (.slice (some ⟨GA, 0, none⟩) n CA) ((q ++ [(r : Int)]).reverse ++ (q' ++ [(u : Int)])) ∧ Below w.heap.size w (w6.drewN nq)) := ⟨own_later HO6.out HD.out, Below.trans HB6.out (Below.mono HD.out HB6.out.size)⟩
              clear h15
              go_wp2_with fail
              go_ret3
              exact ⟨_, _, _, rfl, HLK.out.1, HLK.out.2, HEND.out.2, .inl ⟨GA, CA, n, _, r, u, rfl, rfl, HEND.out.1, HAU.out⟩⟩
        · obtain rfl : j = dg := by omega
          have hd : decide ((j : Int) < (j : Int)) = false := by rw [decide_eq_false_iff_not]; omega
          obtain ⟨hg1, hsq1, htu1, hb1⟩ := hin.out
          have hsd : SQ N es s B (P ++ [v]) none 0 := SQ.done (by rw [hdeg]; exact hsq1)
          have hnb := fnext_both wr hb1.size hg1 hsd htu1 hN
          have HNB := Lib.hid hnb
          have HBW := Lib.hid hb1
          clear hin hg1 hsq1 htu1 hb1 hsd hnb hlt hj
          go_wp2_with fail
          refine HNB.out.mono ?_
          rintro e w3 ⟨is, v3, s3, rfl, a1, a2, a3, a4, a5⟩
          have HG3 := Lib.hid a1
          have HSQ3 : Hid (SQ N es s3 B (P ++ [v]) (if is = true then some v3 else none) 0 ∧ (is = false → s3.wl = []) ∧ s3.tu ≤ s3.lk) := ⟨a2, a3, a4⟩
          have HB3 : Hid (Below w.heap.size w w3) := Below.trans HBW.out a5
          have HMS : Hid (N - (P ++ [v]).length < N - P.length) := by have := HPL.out; unfold Hid; simp; omega
          clear a1 a2 a3 a4 a5
          go_wp2_with fail
          go_roundg (N - (P ++ [v]).length)
          case rel => exact ⟨is, v3, s3, B, P ++ [v], rfl, rfl, HG3, HSQ3, HB3, rfl⟩
          case measure => rw [hk.out]; exact HMS.out
end
end

section
open Go.RowKit
/-- Which function a method of the heap's entries is. -/
theorem meth_push (q : Nat) (W : World) : (method 479 157 (.pointer (some ⟨q, 0, none⟩)) "Push").run Tryz.prog W = .ok (329, .pointer (some ⟨q, 0, none⟩)) W := by kernel_rfl
theorem meth_pop (q : Nat) (W : World) : (method 479 157 (.pointer (some ⟨q, 0, none⟩)) "Pop").run Tryz.prog W = .ok (328, .pointer (some ⟨q, 0, none⟩)) W := by kernel_rfl
theorem meth_val {q : Nat} {W : World} {v : Value} {name : String} {F : FuncId} (h : W.cell? ⟨q, 0, none⟩ = some v) (hm : ((Tryz.prog.info? 157).map fun i => (i.methods.find? (·.name == name)).map fun m => (m.path.size, m.func)) = some (some (0, some (F, false)))) :
    (method 479 157 (.pointer (some ⟨q, 0, none⟩)) name).run Tryz.prog W = .ok (F, v) W := by
  obtain ⟨i, hi, hm2⟩ := Option.map_eq_some_iff.1 hm
  obtain ⟨m, hm3, hm4⟩ := Option.map_eq_some_iff.1 hm2
  simp only [Prod.mk.injEq] at hm4
  obtain ⟨k1, k2⟩ := hm4
  have hp : m.path = #[] := Array.eq_empty_of_size_eq_zero k1
  have hu : Tryz.prog.underlying 157 = some (.pointer 128) := by kernel_rfl
  have hu2 : Tryz.prog.underlying 128 = some (.slice 132) := by kernel_rfl
  have hw : ∀ (xs : Array TypeId) (t : TypeId) (a b : ByteArray), Builtin.ssaWrapNilChk_ xs t #[.pointer (some ⟨q, 0, none⟩), .string a, .string b] = pure (.pointer (some ⟨q, 0, none⟩)) := fun _ _ _ _ => rfl
  unfold method
  simp [hw, typeInfo, hi, hm3, hp, k2, follow, receiverAt, run_underlying hu, Place.get, strVal, asAddr, loadVar, isAgg, run_underlying hu2, h]
theorem meth_len {q : Nat} {W : World} {v : Value} (h : W.cell? ⟨q, 0, none⟩ = some v) : (method 479 157 (.pointer (some ⟨q, 0, none⟩)) "Len").run Tryz.prog W = .ok (324, v) W := meth_val h (by kernel_rfl)
theorem meth_less {q : Nat} {W : World} {v : Value} (h : W.cell? ⟨q, 0, none⟩ = some v) : (method 479 157 (.pointer (some ⟨q, 0, none⟩)) "Less").run Tryz.prog W = .ok (325, v) W := meth_val h (by kernel_rfl)
theorem meth_swap {q : Nat} {W : World} {v : Value} (h : W.cell? ⟨q, 0, none⟩ = some v) : (method 479 157 (.pointer (some ⟨q, 0, none⟩)) "Swap").run Tryz.prog W = .ok (326, v) W := meth_val h (by kernel_rfl)
end

end Go.Proofs.YtbnipgajhpbolaaGreatDoor
