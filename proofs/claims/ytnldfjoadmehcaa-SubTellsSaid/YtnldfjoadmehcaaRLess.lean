/- The walk of the reference's Less. -/
import Derived.Test.YtnldfjoadmehcaaRSome
import Derived.Test.YtnldfjoadmehcaaEdgesPure
import Derived.Deep.RegionLaw
set_option linter.unusedVariables false
set_option linter.unusedSimpArgs false
namespace Go.Proofs.Ytnldfjoadmehcaa
open Go.RowKit

/-- What is left, when the first k are taken. -/
def leftE (es l : List Ed) (k : Nat) : List Ed := es.filter fun e => decide (e ∉ turnL (l.take k))
theorem take_drop_ne {es : List Ed} (hnd : es.Nodup) {p : Nat} (hp : p < es.length) : es.take p ++ es.drop (p + 1) = es.filter fun e => decide (e ≠ ge es p) := by
  have e0 : es = es.take p ++ ge es p :: es.drop (p + 1) := by
    rw [ge_get hp, List.getElem_cons_drop hp, List.take_append_drop]
  have hnd2 := hnd
  rw [e0, List.nodup_append, List.nodup_cons] at hnd2
  generalize ge es p = x at *
  have h1 : (es.take p).filter (fun e => decide (e ≠ x)) = es.take p := List.filter_eq_self.2 fun a ha => decide_eq_true fun e => hnd2.2.2 a ha x (List.mem_cons_self ..) e
  have h2 : (es.drop (p + 1)).filter (fun e => decide (e ≠ x)) = es.drop (p + 1) := List.filter_eq_self.2 fun a ha => decide_eq_true fun e => hnd2.2.1.1 (e ▸ ha)
  have h3 : (es.take p ++ x :: es.drop (p + 1)).filter (fun e => decide (e ≠ x)) = es.take p ++ es.drop (p + 1) := by
    rw [List.filter_append, h1, List.filter_cons, if_neg (by simp), h2]
  rw [← e0] at h3
  exact h3.symm
theorem left_step {es l : List Ed} {k p : Nat} (hs : es.Pairwise fun a b => ahead a b = true) (hk : k < l.length) (hp : p < (leftE es l k).length) (hx : ge (leftE es l k) p = turnE (ge l k).1 (ge l k).2) :
    (leftE es l k).take p ++ (leftE es l k).drop (p + 1) = leftE es l (k + 1) := by
  rw [take_drop_ne (es := leftE es l k) (rise_nodup (hs.filter _)) hp, hx]
  unfold leftE
  rw [turnL_succ hk, List.filter_filter]
  congr 1
  funext e
  rw [Bool.eq_iff_iff]
  simp [not_or, and_comm]
theorem left_mem {es l : List Ed} {k : Nat} {x : Ed} : x ∈ leftE es l k ↔ x ∈ es ∧ x ∉ turnL (l.take k) := by
  unfold leftE
  rw [List.mem_filter]
  simp
/-- The graph in its box, while edges are taken away; the result still empty. -/
def BX2 (w : World) (N : Int) (A : Option Addr) (c : Nat) (es : List Ed) (W : World) : Prop :=
  es.length ≤ c ∧ W.heap[w.heap.size]? = some (gcells N A es.length c) ∧ W.heap[w.heap.size + 1]? = some (gcells 0 none 0 0) ∧ ReadE W A es.length es ∧ Below w.heap.size w W
theorem BX2.later {w W W' : World} {N : Int} {A : Option Addr} {c : Nat} {es : List Ed} (h : BX2 w N A c es W) (g : RW W W') : BX2 w N A c es W' :=
  ⟨h.1, blk_later h.2.1 g, blk_later h.2.2.1 g, h.2.2.2.1.below g, bel_trans h.2.2.2.2 g⟩

set_option maxHeartbeats 8000000 in
set_option maxRecDepth 100000 in
theorem rless_any {A B : Option Addr} {n c m d : Nat} {es l : List Ed} (N : Int) (w : World) (h : ReadE w A n es) (hl : ReadE w B m l) (hnc : n ≤ c) :
    Calls Try.prog 33 #[.agg #[.int .i64 N, .slice A n c], .slice B m d] w (LessQ (lessP N es l) w) := by
  have hn := h.2.1
  have hm := hl.2.1
  have L1 := Lib.hid hl.1
  obtain rfl := h.1
  have hz0 := GZ.start w N A es.length c
  have HZ0 := Lib.hid hz0
  have hg := right_any (c := c) N _ (h.below (below_box hz0.gb))
  clear hz0
  cases hr : rightB N es
  · have hP : Hid (lessP N es l = (0, [], 3)) := by unfold Hid lessP; rw [if_pos hr]
    rw [hr] at hg
    clear hr
    go_enter Try.func33, Try.ntmps33
    go_wp2_with fail
    refine hg.mono ?_
    rintro e w1 ⟨rfl, hb1⟩
    have z1 := HZ0.out.later hb1
    obtain ⟨r0, r1, r2, r3⟩ := GZ.res z1
    have HEND : Hid (((w1.setCell ⟨w.heap.size + 1, 0, none⟩ (.int .i64 0)).setCell ⟨w.heap.size + 1, 1, none⟩ (.slice none 0 0)).heap[w.heap.size + 1]? = some (gcells 0 none 0 0)) := Go.Proofs.YtnldfjoadmehcaaW.PrintWords.blk_put (Go.Proofs.YtnldfjoadmehcaaW.PrintWords.blk_put (GZ.blk z1) 0 _ rfl) 1 _ rfl
    have HBEL : Hid (Below w.heap.size w ((w1.setCell ⟨w.heap.size + 1, 0, none⟩ (.int .i64 0)).setCell ⟨w.heap.size + 1, 1, none⟩ (.slice none 0 0))) := Below.setCell (Below.setCell (below_box z1.gb) (by simp) _) (by simp) _
    clear z1 hb1 hg
    go_wp2_with fail
    (try simp only [Exit.inBlock, Exit.then])
    refine bodyPost_ret (Go.Proofs.YtnldfjoadmehcaaW.PrintWords.results_ct rfl _ _ (w.heap.size + 1) 26 #[.int .i64 0, .slice none 0 0] (0, 0) _ rfl HEND.out Try.underlying26 rfl (by kernel_rfl)) rfl ?_
    rw [hP.out]
    exact ⟨_, rfl, OwnE.nil _ _, HBEL.out⟩
  rw [hr] at hg
  have HR := Lib.hid hr
  have HP1 : Hid (lessP N es l = if lessOk es l then (N, lessE es l, 0) else (0, [], 7)) := by unfold Hid lessP; rw [if_neg (by rw [hr]; decide)]
  have hrr := rightB_iff.1 hr
  have HRI := Lib.hid hrr.2.2.2.2
  have hn6 : es.length ≤ 65536 := hrr.2.2.1
  clear hr hrr
  go_enter Try.func33, Try.ntmps33
  go_wp2_with fail
  refine hg.mono ?_
  rintro e w1 ⟨rfl, hb1⟩
  have z1 := HZ0.out.later hb1
  have HB0 : Hid (BX2 w N A c (leftE es l 0) w1) := by
    have e0 : leftE es l 0 = es := by unfold leftE; simp [turnL]
    unfold Hid
    rw [e0]
    refine ⟨hnc, ?_, z1.blk, h.below (below_box z1.gb), below_box z1.gb⟩
    exact (Below.block z1 _ (by omega)).trans ((heap_alloc_old _ _ (by simp)).trans (heap_alloc_new w _))
  clear z1 hb1 hg
  go_wp2_with fail
  go_loopw [6] (fun i wr => ∃ (k : Nat) (A : Option Addr) (c : Nat), k ≤ m ∧ i = .int .i64 k ∧ Hid (LessK es l k) ∧ Hid (BX2 w N A c (leftE es l k) wr)) (fun i _ => m - (intOf i).toNat)
  case atStart => exact ⟨0, A, c, Nat.zero_le _, rfl, ⟨fun x hx => absurd hx (by simp [turnL]), by simp [turnL]⟩, HB0⟩
  case round =>
    obtain ⟨k, A1, c1, hk, rfl, hlk, hbx⟩ := hrel
    obtain ⟨g0, g1, g2, g3⟩ := blk_cells hbx.out.2.1
    obtain ⟨r0, r1, r2, r3⟩ := blk_cells hbx.out.2.2.1
    have HL6 : Hid ((leftE es l k).length ≤ 65536) := by have := List.length_filter_le (fun e => decide (e ∉ turnL (l.take k))) es; unfold Hid leftE; omega
    by_cases hlt : k < m
    · obtain ⟨b, o, rfl, hc⟩ := (hl.below hbx.out.2.2.2.2).2.2 (by omega)
      obtain ⟨hc1, hc2⟩ := hc k hlt
      have HK : Hid (k < l.length) := by have := L1.out; unfold Hid; omega
      have HN1 : Hid (turnE (ge l k).1 (ge l k).2 ∉ es → lessOk es l = false) := fun q => LessK.none HK.out q
      have HN2 : Hid (turnE (ge l k).1 (ge l k).2 ∈ turnL (l.take k) → lessOk es l = false) := fun q => LessK.twice HK.out q
      have HN3 : Hid (turnE (ge l k).1 (ge l k).2 ∈ es → turnE (ge l k).1 (ge l k).2 ∉ turnL (l.take k) → LessK es l (k + 1)) := fun q1 q2 => LessK.step hlk.out HK.out q1 q2
      have HN4 : Hid (∀ p, p < (leftE es l k).length → ge (leftE es l k) p = turnE (ge l k).1 (ge l k).2 → (leftE es l k).take p ++ (leftE es l k).drop (p + 1) = leftE es l (k + 1)) := fun p h1 h2 => left_step HRI.out HK.out h1 h2
      have HLM := Lib.hid (left_mem (es := es) (l := l) (k := k) (x := turnE (ge l k).1 (ge l k).2))
      have hix := fun W (hW : ReadE W A1 (leftE es l k).length (leftE es l k)) => index_any (c := c1) (N := N) (ge l k).1 (ge l k).2 W hW
      have HIB : Hid (indexB N (leftE es l k) (ge l k).1 (ge l k).2 = atE (leftE es l k) (turnE (ge l k).1 (ge l k).2)) := by unfold Hid indexB; rw [if_pos (show rightB N (leftE es l k) = true from filter_right HR.out _)]
      have HS1 : Hid (wr.cell? ⟨w.heap.size, 0, none⟩ = some (.int .i64 N) ∧ wr.cell? ⟨w.heap.size, 1, none⟩ = some (.slice A1 (leftE es l k).length c1) ∧ wr.cell? ⟨b, o + k * 2, none⟩ = some (.int .i64 (ge l k).1) ∧ wr.cell? ⟨b, o + k * 2 + 1, none⟩ = some (.int .i64 (ge l k).2)) := ⟨g0, g1, hc1, hc2⟩
      have hki : (0 : Int) ≤ (k : Int) ∧ (k : Int) < (m : Int) := by omega
      have hkd : decide ((k : Int) < (m : Int)) = true := by rw [decide_eq_true_eq]; omega
      have HLT := Lib.hid hlt
      rw [HIB.out] at hix
      clear hc hc1 hc2 hlt hk
      generalize turnE (ge l k).1 (ge l k).2 = te at *
      generalize ge l k = ek at *
      obtain ⟨e1, e2⟩ := ek
      generalize hE : leftE es l k = E at *
      have HE := Lib.hid hE
      clear hE
      simp only [] at hix HS1
      by_cases hmem : te ∈ E
      · obtain ⟨p, hp1, hp2, hp3⟩ := mem_at hmem
        rw [hp3] at hix
        have HP2 := Lib.hid hp2
        have HPL := Lib.hid hp1
        have HMEM := Lib.hid (HLM.out.1 hmem)
        have hpd : decide ((p : Int) < 0) = false := by rw [decide_eq_false_iff_not]; omega
        clear hp2 hp3 hmem g0 g1 g2 g3 r0 r1 r2 r3
        go_wp2_with fail
        go_region_held3 (fun w' => w'.cell? ⟨w.heap.size, 0, none⟩ = some (.int .i64 N) ∧ w'.cell? ⟨w.heap.size, 1, none⟩ = some (.slice A1 E.length c1) ∧ w'.cell? ⟨b, o + k * 2, none⟩ = some (.int .i64 e1) ∧ w'.cell? ⟨b, o + k * 2 + 1, none⟩ = some (.int .i64 e2) ∧ RW wr w')
          (first | assumption | exact RW.all HS1.out (RW.refl wr).drew | exact RW.all HS1.out (RW.later (And.right (And.right (And.right (And.right (by assumption))))) hb9) | fail)
          (first | (go_at_call 69; refine (hix _ (ReadE.below hbx.out.2.2.2.1 (And.right (And.right (And.right (And.right (by assumption))))))).mono ?_; rintro e w9 ⟨rfl, hb9⟩) | fail)
        have hrw9 : RW wr w9 := And.right (And.right (And.right (And.right (by assumption))))
        have HX9 := Lib.hid (hbx.out.later hrw9)
        clear hrw9 hix
        obtain ⟨x0, x1, x2, x3⟩ := blk_cells HX9.out.2.1
        obtain ⟨A', hA1, hA2⟩ := cutE_from A1 E.length c1 (p + 1) ((p : Int) + 1) (by omega) (by have := HPL.out; omega) HX9.out.1
        have hcut := fun W => cutE_to A1 E.length c1 p (p : Int) rfl (by have := HPL.out; have := HX9.out.1; omega) W
        have ew : IntKind.i64.wrap ((p : Int) + 1) = (p : Int) + 1 := by rw [IntKind.wrap_i64]; have := HPL.out; have := HL6.out; omega
        have HBOX := Lib.hid (And.intro x0 x1)
        have HAD := Lib.hid hA2
        have HT1 := Lib.hid ((HX9.out.2.2.2.1.drawn (Drawn.refl _).drew).take p (by have := HPL.out; omega))
        have HSZ9 : Hid (w9.heap.size ≤ w9.drew.heap.size) := Nat.le_refl _
        have HS4 := HN4.out p HPL.out HP2.out
        have HLEN1 : Hid (([] : List Ed).length + p ≤ 1000000000) := by have := HPL.out; have := HL6.out; simp [Hid]; omega
        have HLEN2 : Hid (([] ++ E.take p).length + (E.length - (p + 1)) ≤ 1000000000) := by have := HL6.out; unfold Hid; rw [List.nil_append, List.length_take]; omega
        have HN := Lib.hid HS4
        have HLK3 := HN3.out HMEM.out.1 HMEM.out.2
        have HLKH := Lib.hid HLK3
        have pi : (0 : Int) ≤ (p : Int) := by omega
        clear hA2 HS4 HLK3 hp1
        go_wp2_with fail
        go_region_law (first
          | (refine step_appE w9.heap.size (by rfl) _ _ (by rfl) (.slice none 0 0) [] (E.take p) (by rfl) (OwnE.nil _ _) HSZ9.out A1 p c1 (by rfl) HT1.out HLEN1.out ?_; intro v1 w11 own1 g11 hat1; have HR11 : Hid (RW w9 w11) := RW.grown (RW.refl w9).drew g11 (by intro k hk; cases hk); have f0 := (later2 HR11.out HBOX.out).1; have f1 := (later2 HR11.out HBOX.out).2)
          | (refine step_appE w9.heap.size (by rfl) _ _ (by rfl) v1 ([] ++ E.take p) (E.drop (p + 1)) (by rfl) own1 (Below.size HR11.out) A' (E.length - (p + 1)) (c1 - (p + 1)) (by rfl) (ReadE.drop (HX9.out.2.2.2.1.below HR11.out) (p + 1) (by have := HPL.out; omega) HAD.out) HLEN2.out ?_; intro v2 w12 own2 g12 hat2; have HR12 : Hid (RW w9 w12) := RW.grown HR11.out g12 (row_base own1); have h0 := (later2 HR12.out HBOX.out).1; have h1 := (later2 HR12.out HBOX.out).2; have h2 := (blk_cells (HX9.out.later HR12.out).2.1).2.2.1; have h3 := (blk_cells (HX9.out.later HR12.out).2.1).2.2.2; obtain ⟨A5, n5, c5, rfl⟩ := OwnE.shape own2)
          | fail)
        all_goals
          have e5 : [] ++ E.take p ++ E.drop (p + 1) = leftE es l (k + 1) := by rw [List.nil_append]; exact HN.out
          rw [e5] at own2
          obtain ⟨A6, c6, e', hc5, -, -⟩ := OwnE.read own2
          injection e' with e1' e2' e3'
          subst e1' e2' e3'
          have HBX : Hid (BX2 w N A5 c5 (leftE es l (k + 1)) ((w12.setCell ⟨w.heap.size, 0, none⟩ (.int .i64 N)).setCell ⟨w.heap.size, 1, none⟩ (.slice A5 (leftE es l (k + 1)).length c5))) := by
            have hx := HX9.out.later HR12.out
            have hlt9 : w.heap.size < w9.heap.size := blk_lt HX9.out.2.1
            refine ⟨hc5, ?_, ?_, ?_, ?_⟩
            · exact Go.Proofs.YtnldfjoadmehcaaW.PrintWords.blk_put (cs := #[.int .i64 N, .slice A1 E.length c1]) (Go.Proofs.YtnldfjoadmehcaaW.PrintWords.blk_put (cs := #[.int .i64 N, .slice A1 E.length c1]) hx.2.1 0 _ rfl) 1 _ rfl
            · rw [Below.heap_setCell _ _ _ (w.heap.size + 1) (by simp), Below.heap_setCell _ _ _ (w.heap.size + 1) (by simp)]
              exact hx.2.2.1
            · exact readE_own (own_set2 own2 hlt9)
            · exact Below.setCell (Below.setCell hx.2.2.2.2 (Nat.le_refl _) _) (Nat.le_refl _) _
          clear own1 own2 f0 f1 h0 h1 h2 h3 x0 x1 x2 x3 ew hcut hA1
          go_wp2_with fail
          exact ⟨⟨k + 1, A5, c5, by have := HLT.out; omega, by go_num, HLKH, HBX⟩, by have := HLT.out; simp [intOf]; omega⟩
      · have hP : Hid (lessP N es l = (0, [], 7)) := by
          unfold Hid
          rw [HP1.out, if_neg]
          by_cases q : te ∈ es
          · rw [HN2.out (by
              by_cases q2 : te ∈ turnL (l.take k)
              · exact q2
              · exact absurd (HLM.out.2 ⟨q, q2⟩) hmem)]
            decide
          · rw [HN1.out q]
            decide
        have hix0 : atE E te = -1 := atE_none fun j hj q => hmem (by rw [← q, ge_get hj]; exact List.getElem_mem hj)
        rw [hix0] at hix
        clear hix0 hmem g0 g1 g2 g3 r0 r1 r2 r3
        go_wp2_with fail
        go_region_held3 (fun w' => w'.cell? ⟨w.heap.size, 0, none⟩ = some (.int .i64 N) ∧ w'.cell? ⟨w.heap.size, 1, none⟩ = some (.slice A1 E.length c1) ∧ w'.cell? ⟨b, o + k * 2, none⟩ = some (.int .i64 e1) ∧ w'.cell? ⟨b, o + k * 2 + 1, none⟩ = some (.int .i64 e2) ∧ RW wr w')
          (first | assumption | exact RW.all HS1.out (RW.refl wr).drew | exact RW.all HS1.out (RW.later (And.right (And.right (And.right (And.right (by assumption))))) hb9) | fail)
          (first | (go_at_call 69; refine (hix _ (ReadE.below hbx.out.2.2.2.1 (And.right (And.right (And.right (And.right (by assumption))))))).mono ?_; rintro e w9 ⟨rfl, hb9⟩) | fail)
        have hrw9 : RW wr w9 := And.right (And.right (And.right (And.right (by assumption))))
        have hx9 := hbx.out.later hrw9
        obtain ⟨r0, r1, r2, r3⟩ := blk_cells hx9.2.2.1
        have HEND : Hid (((w9.setCell ⟨w.heap.size + 1, 0, none⟩ (.int .i64 0)).setCell ⟨w.heap.size + 1, 1, none⟩ (.slice none 0 0)).heap[w.heap.size + 1]? = some (gcells 0 none 0 0)) := Go.Proofs.YtnldfjoadmehcaaW.PrintWords.blk_put (Go.Proofs.YtnldfjoadmehcaaW.PrintWords.blk_put hx9.2.2.1 0 _ rfl) 1 _ rfl
        have HBEL : Hid (Below w.heap.size w ((w9.setCell ⟨w.heap.size + 1, 0, none⟩ (.int .i64 0)).setCell ⟨w.heap.size + 1, 1, none⟩ (.slice none 0 0))) := Below.setCell (Below.setCell hx9.2.2.2.2 (by simp) _) (by simp) _
        clear hrw9 hix hx9
        go_wp2_with fail
        (try simp only [Exit.inBlock, Exit.then])
        refine bodyPost_ret (Go.Proofs.YtnldfjoadmehcaaW.PrintWords.results_ct rfl _ _ (w.heap.size + 1) 26 #[.int .i64 0, .slice none 0 0] (0, 0) _ rfl HEND.out Try.underlying26 rfl (by kernel_rfl)) rfl ?_
        rw [hP.out]
        exact ⟨_, rfl, OwnE.nil _ _, HBEL.out⟩
    · obtain rfl : k = m := by omega
      have HP : Hid (lessP N es l = (N, leftE es l k, 0)) := by
        unfold Hid
        rw [HP1.out, if_pos (hlk.out.ok (by have := L1.out; omega))]
        unfold leftE lessE
        rw [List.take_of_length_le (by have := L1.out; omega)]
      have HBOX := Lib.hid (And.intro g0 g1)
      have HRD := Lib.hid (hbx.out.2.2.2.1.drawn (Drawn.refl _).drew)
      have HSZ9 : Hid (w.heap.size + 2 ≤ wr.heap.size) := by have := blk_lt hbx.out.2.2.1; unfold Hid; omega
      have HSZ8 : Hid (w.heap.size + 2 ≤ wr.drew.heap.size) := HSZ9.out
      have hkd : decide ((k : Int) < (k : Int)) = false := by simp
      clear hlt hlk hk r0 r1 r2 r3 g2 g3
      have HLEN1 : Hid (([] : List Ed).length + (leftE es l k).length ≤ 1000000000) := by have := HL6.out; simp [Hid]; omega
      generalize leftE es l k = E at *
      go_wp2_with fail
      go_region_law (first
        | (refine step_appE (w.heap.size + 2) (by rfl) _ _ (by rfl) (.slice none 0 0) [] E (by rfl) (OwnE.nil _ _) HSZ8.out A1 E.length c1 (by rfl) HRD.out HLEN1.out ?_; intro v1 w11 own1 g11 hat1; have HR11 : Hid (RW wr w11) := RW.grown (RW.refl wr).drew g11 (by intro k hk; cases hk); have f0 := (later2 HR11.out HBOX.out).1; have f1 := (later2 HR11.out HBOX.out).2; have h0 := (blk_cells (hbx.out.later HR11.out).2.2.1).1; have h1 := (blk_cells (hbx.out.later HR11.out).2.2.1).2.1; have h2 := (blk_cells (hbx.out.later HR11.out).2.2.1).2.2.1; have h3 := (blk_cells (hbx.out.later HR11.out).2.2.1).2.2.2; obtain ⟨A5, n5, c5, rfl⟩ := OwnE.shape own1)
        | fail)
      all_goals
        have hx := hbx.out.later HR11.out
        rw [List.nil_append] at own1
        have HEND : Hid (((w11.setCell ⟨w.heap.size + 1, 0, none⟩ (.int .i64 N)).setCell ⟨w.heap.size + 1, 1, none⟩ (.slice A5 n5 c5)).heap[w.heap.size + 1]? = some (.cells #[.int .i64 N, .slice A5 n5 c5] 26 (0, 0))) := Go.Proofs.YtnldfjoadmehcaaW.PrintWords.blk_put (cs := #[.int .i64 N, .slice none 0 0]) (Go.Proofs.YtnldfjoadmehcaaW.PrintWords.blk_put (cs := #[.int .i64 0, .slice none 0 0]) hx.2.2.1 0 _ rfl) 1 _ rfl
        have HBEL : Hid (Below w.heap.size w ((w11.setCell ⟨w.heap.size + 1, 0, none⟩ (.int .i64 N)).setCell ⟨w.heap.size + 1, 1, none⟩ (.slice A5 n5 c5))) := Below.setCell (Below.setCell hx.2.2.2.2 (by simp) _) (by simp) _
        have HOE : Hid (OwnE ((w11.setCell ⟨w.heap.size + 1, 0, none⟩ (.int .i64 N)).setCell ⟨w.heap.size + 1, 1, none⟩ (.slice A5 n5 c5)) (w.heap.size + 2) (.slice A5 n5 c5) E) := own_set2 own1 (by omega)
        clear hx own1 f0 f1 h0 h1 h2 h3 g0 g1
        go_wp2_with fail
        (try simp only [Exit.inBlock, Exit.then])
        refine bodyPost_ret (Go.Proofs.YtnldfjoadmehcaaW.PrintWords.results_ct rfl _ _ (w.heap.size + 1) 26 #[.int .i64 N, .slice A5 n5 c5] (0, 0) _ rfl HEND.out Try.underlying26 rfl (by kernel_rfl)) rfl ?_
        rw [HP.out]
        exact ⟨.slice A5 n5 c5, rfl, HOE.out, HBEL.out⟩

end Go.Proofs.Ytnldfjoadmehcaa
