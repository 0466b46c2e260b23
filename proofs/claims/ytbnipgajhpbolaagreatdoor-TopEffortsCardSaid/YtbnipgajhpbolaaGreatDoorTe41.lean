/- barrier: what a set lacks: count, lacks; The walk of walk.Turn; The walk of greedy.First -/
import Derived.Test.YtbnipgajhpbolaaGreatDoorTe40
import Derived.Test.YtbnipgajhpbolaaGreatDoorTe23
import Derived.Test.YtbnipgajhpbolaaGreatDoorTe12
import Derived.Deep.RegionHeld3
import Derived.Test.YtbnipgajhpbolaaGreatDoorTe07
set_option linter.unusedVariables false
set_option linter.unusedSimpArgs false
namespace Go.Proofs.YtbnipgajhpbolaaGreatDoor

section
open Go.RowKit
section
variable {N : Nat}
def oddN (L : List (List Int)) : Nat := (L.map fun l => l.length % 2).sum
theorem oddN_take {L : List (List Int)} {j : Nat} (h : j < L.length) : oddN (L.take (j + 1)) = oddN (L.take j) + L[j].length % 2 := by
  unfold oddN
  rw [List.take_add_one, List.getElem?_eq_getElem h, Option.toList_some, List.map_append, List.sum_append]
  rfl
theorem oddN_le : ∀ L : List (List Int), oddN L ≤ L.length
  | [] => Nat.le_refl _
  | l :: L => by
    have := oddN_le L
    have h : oddN (l :: L) = l.length % 2 + oddN L := by unfold oddN; simp
    have := Nat.mod_lt l.length (show 0 < 2 by decide)
    rw [h, List.length_cons]
    omega
theorem wrap_odd {o n : Nat} (ho : o ≤ 1000000) : IntKind.i64.wrap ((o : Int) + ((n % 2 : Nat) : Int)) = ((o + n % 2 : Nat) : Int) ∧ IntKind.i64.wrap ((n % 2 : Nat) : Int) = ((n % 2 : Nat) : Int) ∧ ((n : Int).tmod 2) = ((n % 2 : Nat) : Int) := by
  have := Nat.mod_lt n (show 0 < 2 by decide)
  refine ⟨?_, ?_, rfl⟩
  · rw [IntKind.wrap_i64]; omega
  · rw [IntKind.wrap_i64]; omega

set_option maxHeartbeats 4000000 in
theorem count_any {C o n c : Nat} {A : Option Addr} (w : World) (h : w.heap[C]? = some (.cells #[.int .i64 o] 293 (0, 0))) (ho : o ≤ 1000000) :
    Calls Tryz.prog 226 #[.pointer (some ⟨C, 0, none⟩), .slice A n c] w fun e w' => e = .returned (.tuple #[]) ∧ w' = w.setCell ⟨C, 0, none⟩ (.int .i64 ((o + n % 2 : Nat))) := by
  have c0 : w.cell? ⟨C, 0, none⟩ = some (.int .i64 o) := (cell_blk h 0).trans rfl
  have f0 := frozen_blk h 0
  obtain ⟨e1, e2, e3⟩ := wrap_odd (n := n) ho
  have HO := Lib.hid ho
  clear h ho
  go_enter Tryz.func226, Tryz.ntmps226
  go_wp2_with fail
  go_end0
  refine ⟨rfl, ?_⟩
  rw [show wrap64 ((o : Int) + (n : Int) % 2) = ((o + n % 2 : Nat) : Int) from by have := HO.out; unfold wrap64; omega]

set_option maxHeartbeats 16000000 in
set_option maxRecDepth 100000 in
theorem lacks_any {G b0 b1 : Nat} {near : Nat → List Int} {vs : Nat → Value} {ov : Value} {ol : List Int} (w : World) (hN : N ≤ 4096) (hnear : ∀ u, u < N → (near u).length ≤ 1000000 ∧ ∀ x ∈ near u, ∃ z : Nat, z < N ∧ x = z) (hnr : Rows w G b0 N vs near) (ho : OwnI w b1 ov ol) (hol : ol.length ≤ 1000000 ∧ ∀ x ∈ ol, ∃ z : Nat, z < N ∧ x = z) :
    Calls Tryz.prog 178 #[.slice (some ⟨G, 0, none⟩) N N, ov] w fun e w' => e = .returned (.int .i64 ((oddN (Pc.all near N (inL ol) N).2 : Int) - ol.length)) ∧ Below w.heap.size w w' := by
  have n1 := heap_alloc_new w (.cells #[.int .i64 0] 293)
  have b1' := bel_alloc w (.cells #[.int .i64 0] 293)
  have hof := pof_any (w.alloc (.cells #[.int .i64 0] 293)) hN hnear (hnr.later b1') (own_later ho b1') hol
  obtain ⟨A, cA, nA, rfl⟩ := OwnI.shape ho
  have hlA : cA = ol.length := ho.len rfl
  subst hlA
  have HB1 := Lib.hid b1'
  have HN1 := Lib.hid n1
  have HOL := Lib.hid hol.1
  have HPN := Lib.hid (And.intro (Pc.all_le (near := near) (N := N) (d0 := inL ol) N) hN)
  clear hnr hnear ho hol n1 b1'
  go_enter Tryz.func178, Tryz.ntmps178
  go_wp2_with fail
  refine hof.mono ?_
  rintro e w2 ⟨v, rfl, how, hb2⟩
  obtain ⟨vs2, V1, V2, -, V4⟩ := how.ex
  generalize hL : (Pc.all near N (inL ol) N).2 = L at *
  obtain ⟨A2, c2, rfl⟩ := V1.shape
  have HZ : Hid (w.heap.size < (w.alloc (.cells #[.int .i64 0] 293)).heap.size) := by unfold Hid; simp
  have HC2 : Hid (w2.heap[w.heap.size]? = some (.cells #[.int .i64 0] 293 (0, 0))) := (hb2.block _ HZ.out).trans HN1.out
  have HB2 : Hid (Below w.heap.size w w2) := bel_trans HB1.out hb2
  have HV := Lib.hid (And.intro V1 (And.intro V2 V4))
  rw [V2]
  clear hof hb2 how V1 V4
  go_wp2_with fail
  go_loopw [17] (fun i wr => ∃ j : Nat, j ≤ L.length ∧ i = .int .i64 j ∧ Hid (wr.heap[w.heap.size]? = some (.cells #[.int .i64 (oddN (L.take j))] 293 (0, 0)) ∧ (∀ k, k ≠ w.heap.size → wr.heap[k]? = w2.heap[k]?) ∧ Below w.heap.size w wr)) (fun i _ => L.length - (intOf i).toNat)
  case atStart => exact ⟨0, Nat.zero_le _, rfl, HC2.out, fun _ _ => rfl, HB2.out⟩
  case round =>
    clear HC2 HB2
    obtain ⟨j, hj, rfl, hin⟩ := hrel
    have hod := oddN_le (L.take j)
    rw [List.length_take] at hod
    by_cases hlt : j < L.length
    · have HLT := Lib.hid hlt
      have HIN := Lib.hid hin.out
      have V1 : OwnV wr _ _ _ := HV.out.1.same (W' := wr) fun k e => HIN.out.2.1 k (by have := (World.ownsRow.lt HV.out.1 k e).1; have := HZ.out; omega)
      obtain ⟨g, cap, hv, hc⟩ := V1.at (j := j) (by omega)
      simp only [Value.slice.injEq] at hv
      obtain ⟨rfl, -, rfl⟩ := hv
      obtain ⟨GA, CA, n, e, o, -, -⟩ := HV.out.2.2 j (by omega) hlt
      rw [e] at o hc
      have hln : n = L[j].length := o.len rfl
      subst hln
      have hco := count_any (c := CA) (n := L[j].length) (A := some ⟨GA, 0, none⟩) wr HIN.out.1 (by have := HPN.out.1; have := HPN.out.2; omega)
      have HCO := Lib.hid hco
      have HNX : Hid (oddN (L.take j) + L[j].length % 2 = oddN (L.take (j + 1))) := (oddN_take hlt).symm
      have ew := wrap_one (show j ≤ 1000000 by have := HPN.out.1; have := HPN.out.2; omega)
      have hji : (0 : Int) ≤ (j : Int) ∧ (j : Int) < (L.length : Int) := ⟨Int.natCast_nonneg j, Int.ofNat_lt.2 hlt⟩
      clear V1 e o hco hin hlt hj hod
      generalize L[j].length = n at *
      go_wp2_with fail
      refine HCO.out.mono ?_
      rintro e w3 ⟨rfl, rfl⟩
      rw [HNX.out]
      have HI : Hid ((wr.setCell ⟨w.heap.size, 0, none⟩ (.int .i64 (oddN (L.take (j + 1))))).heap[w.heap.size]? = some (.cells #[.int .i64 (oddN (L.take (j + 1)))] 293 (0, 0)) ∧ (∀ k, k ≠ w.heap.size → (wr.setCell ⟨w.heap.size, 0, none⟩ (.int .i64 (oddN (L.take (j + 1))))).heap[k]? = w2.heap[k]?) ∧ Below w.heap.size w (wr.setCell ⟨w.heap.size, 0, none⟩ (.int .i64 (oddN (L.take (j + 1)))))) :=
        ⟨Go.Proofs.YtbnipgajhpbolaaGreatDoorW.PrintWords.blk_put HIN.out.1 0 _ rfl, fun k hk => (Below.heap_setCell _ _ _ _ hk).trans (HIN.out.2.1 k hk), Below.setCell (p := ⟨w.heap.size, 0, none⟩) HIN.out.2.2 (Nat.le_refl _) _⟩
      clear HCO HIN hc
      generalize wr.setCell ⟨w.heap.size, 0, none⟩ (.int .i64 (oddN (L.take (j + 1)))) = w4 at *
      go_wp2_with fail
      go_roundw
      case rel => exact ⟨j + 1, HLT.out, by go_num, HI.out⟩
      case measure => have := HLT.out; simp only [intOf, Int.toNat_natCast]; omega
    · have hje : j = L.length := by omega
      subst hje
      have HIN := Lib.hid hin.out
      have c0 : wr.cell? ⟨w.heap.size, 0, none⟩ = some (.int .i64 (oddN (L.take L.length))) := (cell_blk HIN.out.1 0).trans rfl
      rw [List.take_length] at c0
      have HO := Lib.hid (And.intro (oddN_le L) (And.intro HPN.out HOL.out))
      clear hin hj hlt hod
      go_wp2_with fail
      go_ret
      refine ⟨?_, HIN.out.2.2⟩
      rw [show wrap64 ((oddN L : Int) - (ol.length : Int)) = (oddN L : Int) - ol.length from by have := HO.out; unfold wrap64; omega]
      rw [hL]
      rfl
end
end

section
open Go.RowKit
theorem turnM_snoc : ∀ (k : Nat) {l : List Int} (ms : List Int) (a b : Int), l.length = 2 * k → turnM ms (l ++ [a, b]) = ((turnM ms l).set a.toNat b).set b.toNat a
  | 0, l, ms, a, b, h => by
    have : l = [] := List.eq_nil_of_length_eq_zero (by omega)
    subst this
    rfl
  | k + 1, l, ms, a, b, h => by
    match l, h with
    | x :: y :: l, h =>
      rw [List.cons_append, List.cons_append, turnM, turnM]
      exact turnM_snoc k _ a b (by simp at h; omega)
    | [x], h => simp at h; omega
    | [], h => simp at h
theorem Prs.even {J : Nat → Nat → Prop} {l : List Int} (h : Prs J l) : l.length % 2 = 0 := by
  induction h with
  | nil => rfl
  | cons _ _ ih => simp only [List.length_cons]; omega

set_option maxHeartbeats 8000000 in
set_option maxRecDepth 100000 in
theorem turn_any {base b2 g n c GA m CA : Nat} {ms l : List Int} (w : World) (h : OwnI w base (.slice (some ⟨g, 0, none⟩) n c) ms) (hp : OwnI w b2 (.slice (some ⟨GA, 0, none⟩) m CA) l) (hne : GA ≠ g) (hin : ∀ x ∈ l, ∃ y : Nat, y < n ∧ x = y) (hev : m % 2 = 0) (hm : m ≤ 1000000) :
    Calls Tryz.prog 36 #[.slice (some ⟨g, 0, none⟩) n c, .slice (some ⟨GA, 0, none⟩) m CA] w fun e w' => OwnI w' base (.slice (some ⟨g, 0, none⟩) n c) (turnM ms l) ∧ w.grownBy w' (some g) ∧ e = .returned (.tuple #[]) := by
  have hl : l.length = m := (hp.len rfl).symm
  have hml : ms.length = n := (h.len rfl).symm
  have HP := Lib.hid hp
  have HL := Lib.hid hl
  have HIN : Hid (∀ j, j < m → ∃ y : Nat, y < n ∧ gi l j = y) := fun j hj => hin _ (by rw [gi_at (by omega)]; exact List.getElem_mem _)
  have HEV := Lib.hid hev
  have HNE := Lib.hid hne
  have HML := Lib.hid hml
  have HO0 : Hid (OwnI w base (.slice (some ⟨g, 0, none⟩) n c) (turnM ms (l.take 0))) := h
  have HG0 : Hid (w.grownBy w (some g)) := World.grownBy.refl _ _
  clear h hp hl hml hin hev hne
  go_enter Tryz.func36, Tryz.ntmps36
  go_wp2_with fail
  go_loopw [4] (fun i wr => ∃ k q : Nat, 2 * k ≤ m ∧ i = .int .i64 (q : Int) ∧ Hid (q = 2 * k + 1) ∧ Hid (OwnI wr base (.slice (some ⟨g, 0, none⟩) n c) (turnM ms (l.take (2 * k)))) ∧ Hid (w.grownBy wr (some g))) (fun i _ => m + 2 - (intOf i).toNat)
  case atStart => exact ⟨0, 1, by omega, by go_num, rfl, HO0, HG0⟩
  case round =>
    obtain ⟨k, q, hk, rfl, hq, how, hgr⟩ := hrel
    have hqk := hq.out
    have hpl := HP.out
    by_cases hlt : 2 * k + 1 < m
    · have HLT := Lib.hid hlt
      have d1 : decide ((q : Int) < (m : Int)) = true := decide_eq_true (by omega)
      have hqm : q < m := by omega
      obtain ⟨a, ha, ea⟩ := HIN.out (2 * k) (by omega)
      obtain ⟨b, hb, eb⟩ := HIN.out (2 * k + 1) hlt
      have ca0 := HP.out.cellAt (j := 2 * k) (by omega)
      have cb0 := HP.out.cellAt (j := 2 * k + 1) hlt
      rw [ea] at ca0
      rw [eb] at cb0
      obtain ⟨r, hr⟩ : ∃ r, r = 2 * k := ⟨_, rfl⟩
      rw [← hr] at ca0
      rw [← hqk] at cb0
      have ca : wr.cell? ⟨GA, r, none⟩ = some (.int .i64 a) := hgr.out.cell ca0 (fun e => HNE.out (Option.some.inj e.symm ▸ rfl))
      have cb : wr.cell? ⟨GA, q, none⟩ = some (.int .i64 b) := hgr.out.cell cb0 (fun e => HNE.out (Option.some.inj e.symm ▸ rfl))
      have hai : (0 : Int) ≤ (a : Int) ∧ (a : Int) < (n : Int) := by omega
      have hbi : (0 : Int) ≤ (b : Int) ∧ (b : Int) < (n : Int) := by omega
      have i0 : IntKind.i64.wrap ((q : Int) - 1) = (r : Int) := by rw [IntKind.wrap_i64]; omega
      have i1 : (0 : Int) ≤ (r : Int) ∧ (r : Int) < (m : Int) := by omega
      have i2 : (0 : Int) ≤ (q : Int) ∧ (q : Int) < (m : Int) := by omega
      have i3 : wrap64 ((q : Int) + 2) = ((q + 2 : Nat) : Int) := by unfold wrap64; omega
      have k1 := how.out.cellAt ha
      have f1 := how.out.frozAt a
      have ho1 := how.out.put1 a (b : Int)
      have k2 := ho1.cellAt hb
      have f2 := ho1.frozAt b
      have f2' := how.out.frozAt b
      have hgs1 := grown_set wr g a (.int .i64 (b : Int))
      have S0 : Hid (wr.drew.cell? ⟨GA, r, none⟩ = some (.int .i64 a) ∧ wr.drew.cell? ⟨GA, q, none⟩ = some (.int .i64 b)) := ⟨ca, cb⟩
      have S1 : Hid ((wr.setCell ⟨g, a, none⟩ (.int .i64 (b : Int))).drew.cell? ⟨GA, r, none⟩ = some (.int .i64 a) ∧ (wr.setCell ⟨g, a, none⟩ (.int .i64 (b : Int))).drew.cell? ⟨GA, q, none⟩ = some (.int .i64 b)) :=
        ⟨hgs1.cell ca (fun e => HNE.out (Option.some.inj e.symm ▸ rfl)), hgs1.cell cb (fun e => HNE.out (Option.some.inj e.symm ▸ rfl))⟩
      have hgs2 := grown_set (wr.setCell ⟨g, a, none⟩ (.int .i64 (b : Int))) g b (.int .i64 (a : Int))
      have S2 : Hid (((wr.setCell ⟨g, a, none⟩ (.int .i64 (b : Int))).setCell ⟨g, b, none⟩ (.int .i64 (a : Int))).drew.cell? ⟨GA, r, none⟩ = some (.int .i64 a) ∧ ((wr.setCell ⟨g, a, none⟩ (.int .i64 (b : Int))).setCell ⟨g, b, none⟩ (.int .i64 (a : Int))).drew.cell? ⟨GA, q, none⟩ = some (.int .i64 b)) :=
        ⟨hgs2.cell S1.out.1 (fun e => HNE.out (Option.some.inj e.symm ▸ rfl)), hgs2.cell S1.out.2 (fun e => HNE.out (Option.some.inj e.symm ▸ rfl))⟩
      have HN : Hid (OwnI ((wr.setCell ⟨g, a, none⟩ (.int .i64 (b : Int))).setCell ⟨g, b, none⟩ (.int .i64 (a : Int))).drew base (.slice (some ⟨g, 0, none⟩) n c) (turnM ms (l.take (2 * (k + 1)))) ∧ w.grownBy ((wr.setCell ⟨g, a, none⟩ (.int .i64 (b : Int))).setCell ⟨g, b, none⟩ (.int .i64 (a : Int))).drew (some g)) := by
        have e : l.take (2 * (k + 1)) = l.take (2 * k) ++ [(a : Int), (b : Int)] := by
          rw [show 2 * (k + 1) = 2 * k + 1 + 1 by omega, List.take_succ_eq_append_getElem (by have := HL.out; omega), List.take_succ_eq_append_getElem (by have := HL.out; omega)]
          rw [← gi_at (by have := HL.out; omega), ← gi_at (by have := HL.out; omega), ea, eb]
          simp
        rw [e, turnM_snoc k _ _ _ (by rw [List.length_take]; have := HL.out; omega), Int.toNat_natCast, Int.toNat_natCast]
        have hgt := (hgr.out.trans hgs1).trans hgs2
        exact ⟨own_later (ho1.put1 b (a : Int)) (RW.refl _).drew, ⟨hgt.os, hgt.tape, hgt.output, hgt.size, hgt.block⟩⟩
      clear how hgr hpl ca0 cb0 ea eb ho1 hgs1 hgs2 hlt hk ha hb hr hqk
      go_wp2_with fail
      go_region_held3 (fun w' => w'.cell? ⟨GA, r, none⟩ = some (.int .i64 a) ∧ w'.cell? ⟨GA, q, none⟩ = some (.int .i64 b))
        (first | assumption | exact S0.out | exact S1.out | exact S2.out | fail) (fail)
      clear S0 S1 S2 ca cb k1 k2 f1 f2 f2'
      go_wp2_with fail
      go_roundw
      case rel => exact ⟨k + 1, q + 2, by have := HLT.out; have := HEV.out; omega, by first | rfl | rw [i3] | (simp; done), by have := hq.out; unfold Hid; omega, HN.out.1, HN.out.2⟩
      case measure => (try rw [i3]); have := HLT.out; have := hq.out; simp only [intOf]; omega
    · have d1 : decide ((q : Int) < (m : Int)) = false := decide_eq_false (by omega)
      have hqm : m ≤ q := by omega
      have HE : Hid (turnM ms (l.take (2 * k)) = turnM ms l) := by
        unfold Hid
        rw [List.take_of_length_le (by have := HL.out; have := HEV.out; omega)]
      clear hlt hk hpl hqk
      go_wp2_with fail
      go_end0
      exact ⟨by rw [← HE.out]; exact how.out, hgr.out, rfl⟩
end

section
open Go.RowKit
theorem firstL_none {N : Int} {es : List Ed} (h : (noneL N es).length = 0) : firstL N es = [] := by
  unfold noneL at h
  unfold firstL
  cases hR : rightB N es
  · rfl
  · rw [hR, if_pos rfl, List.length_replicate] at h
    rw [if_pos rfl, h]
    rfl

set_option maxHeartbeats 8000000 in
set_option maxRecDepth 100000 in
theorem first_any {A : Option Addr} {n c : Nat} {es : List Ed} (N : Int) (w : World) (h : ReadE w A n es) :
    Calls Tryz.prog 32 #[.agg #[.int .i64 N, .slice A n c]] w fun e w' => ∃ v, e = .returned v ∧ OwnI w' w.heap.size v (firstL N es) ∧ Below w.heap.size w w' := by
  have hb1 := bel_alloc w (gcells N A n c)
  obtain ⟨x0, x1⟩ := boxg w N A n c
  have hr := matesNone_any (c := c) N (w.alloc (gcells N A n c)) (h.below hb1)
  have HB1 := Lib.hid hb1
  have HX := Lib.hid (And.intro x0 x1)
  have HE := Lib.hid h
  clear hb1 h
  go_enter Tryz.func32, Tryz.ntmps32
  go_wp2_with fail
  refine hr.mono ?_
  rintro e w2 ⟨v0, rfl, own0, hb2⟩
  have HB2 := Lib.hid (bel_trans HB1.out hb2)
  have HX2 := Lib.hid (And.intro (cell_later hb2 HX.out.1) (cell_later hb2 HX.out.2))
  have HBS := Lib.hid hb2.size
  obtain ⟨A0, c0, rfl, -, -, -⟩ := OwnI.read own0
  have OWN0 := Lib.hid own0
  clear hb2 hr x0 x1 own0
  by_cases hz : (noneL N es).length = 0
  · have HN : Hid (firstL N es = []) := firstL_none hz
    have HW3 : Hid (Below w.heap.size w (w2.alloc (.cells #[.slice A0 0 c0] 92))) := bel_trans HB2.out (bel_alloc _ _)
    rw [hz]
    clear hz OWN0
    go_wp2_with fail
    go_ret
    rw [HN.out]
    exact ⟨_, rfl, ownI_empty _ _, HW3.out⟩
  · have hR : rightB N es = true := by
      cases q : rightB N es
      · exfalso
        unfold noneL at hz
        rw [q] at hz
        exact hz rfl
      · rfl
    obtain ⟨r1, r2, r3, r4⟩ := rightB_iff.1 hR
    obtain ⟨M, rfl⟩ : ∃ M : Nat, N = M := ⟨N.toNat, by omega⟩
    have hno : noneL M es = List.replicate M (-1) := by unfold noneL; rw [hR, if_pos rfl, Int.toNat_natCast]
    have HFL : Hid (firstL M es = firstTo M es M) := by unfold Hid firstL; rw [hR, if_pos rfl, Int.toNat_natCast]
    have HRI := Lib.hid r4
    have HRB := Lib.hid hR
    have OWN1 := OWN0.out
    rw [hno] at OWN1 hz ⊢
    simp only [List.length_replicate] at OWN1 hz ⊢
    obtain ⟨g, c1, e1, hg1, hg2, hg3⟩ := own_slice OWN1 (by simp; omega)
    injection e1 with e1 e2 e3
    subst e1 e3
    have hM : 0 < M := by omega
    have hM6 : M ≤ 4096 := by omega
    have HG := Lib.hid (And.intro hg1 hg2)
    have OWN := Lib.hid OWN1
    have HXB : Hid ((w2.alloc (.cells #[.slice (some ⟨g, 0, none⟩) M c0] 92)).cell? ⟨w2.heap.size, 0, none⟩ = some (.slice (some ⟨g, 0, none⟩) M c0)) := (cell_blk (heap_alloc_new _ _) 0).trans rfl
    have HX3 := Lib.hid (later2 (bel_alloc w2 (.cells #[.slice (some ⟨g, 0, none⟩) M c0] 92)) HX2.out)
    have HB3 := Lib.hid (bel_trans HB2.out (bel_alloc w2 (.cells #[.slice (some ⟨g, 0, none⟩) M c0] 92)))
    have HW3 : Hid ((w2.alloc (.cells #[.slice (some ⟨g, 0, none⟩) M c0] 92)).heap.size = w2.heap.size + 1) := by simp [Hid]
    have OWN3 := Lib.hid (OWN1.later (bel_alloc w2 (.cells #[.slice (some ⟨g, 0, none⟩) M c0] 92)))
    have HEL := Lib.hid HE.out.1
    have hli := lists_any (c := c) M _ (HE.out.below HB3.out) hM6 (by have := HEL.out; omega) (fun k hk => by
      have := r4.1 _ (show ge es k ∈ es by rw [ge_get (by have := HEL.out; omega)]; exact List.getElem_mem _)
      unfold edgeOk at this
      simp at this
      omega)
    clear OWN0 OWN1 hno r1 r2 r3 r4 hR hg1 hg2 hg3 e2 hz
    have hz0 : ((M : Int) == 0) = false := by simp; omega
    obtain ⟨y0, y1⟩ := HX3.out
    obtain ⟨y2, y3⟩ := HX2.out
    go_wp2_with fail
    generalize w2.alloc (.cells #[.slice (some ⟨g, 0, none⟩) M c0] 92) = w3 at *
    refine hli.mono ?_
    rintro e w4 ⟨vs, rfl, hrows, hb4⟩
    have HROWS := Lib.hid (hrows.congr (L' := fun v => nearV es v) fun i hi => rfl)
    have HB4 := Lib.hid (bel_trans HB3.out hb4)
    have OWN4 := Lib.hid (OWN3.out.later hb4)
    have HX4 := Lib.hid (cell_later hb4 HXB.out)
    have HG4 : Hid (g < w2.heap.size ∧ w.heap.size + 1 ≤ g ∧ w3.heap.size = w2.heap.size + 1) := ⟨HG.out.2, by have := HG.out.1; simp at this; exact this, HW3.out⟩
    have HI0 : Hid (OwnI w4 (w.heap.size + 1) (.slice (some ⟨g, 0, none⟩) M c0) (firstTo M es 0)) := by
      exact row_weaken OWN4.out (by simp)
    clear hli hb4 hrows y0 y1 y2 y3 hz0
    have h4 := HX4.out
    go_wp2_with fail
    clear h4
    go_loopw [23] (fun i wr => ∃ k : Nat, k ≤ M ∧ i = .int .i64 k ∧ Hid (OwnI wr (w.heap.size + 1) (.slice (some ⟨g, 0, none⟩) M c0) (firstTo M es k)) ∧ Hid (wr.cell? ⟨w2.heap.size, 0, none⟩ = some (.slice (some ⟨g, 0, none⟩) M c0)) ∧ Hid (Rows wr w3.heap.size (w3.heap.size + 1) M vs (fun v => nearV es v)) ∧ Hid (Below w.heap.size w wr)) (fun i _ => M - (intOf i).toNat)
    case atStart => exact ⟨0, Nat.zero_le _, rfl, HI0, HX4, HROWS, HB4⟩
    case round =>
      obtain ⟨k, hk, rfl, howr, hbox, hrow, hb⟩ := hrel
      by_cases hlt : k < M
      · have HLT := Lib.hid hlt
        have hST : firstTo M es (k + 1) = stepF (nearV es k) k (firstTo M es k) := rfl
        have HLM := Lib.hid (firstTo_length M es k)
        generalize hms : firstTo M es k = ms at *
        have HST : Hid (firstTo M es (k + 1) = stepF (nearV es k) k ms) := hST
        clear hST hms
        have hbx := hbox.out
        have HRD : Hid (ReadI wr (some ⟨g, 0, none⟩) M ms) := by
          have := readI_own howr.out
          rw [HLM.out] at this
          exact this
        have hsf := sfree_any (c := c0) k hlt wr HRD.out
        obtain ⟨A1, c1, hck, hrk⟩ := hrow.out.at hlt
        have HCK := Lib.hid hck
        have HRK := Lib.hid hrk
        have HNI : Hid (∀ j, j < (nearV es k).length → 0 ≤ gi (nearV es k) j ∧ gi (nearV es k) j < M) := fun j hj => by
          have := near_in HRI.out (gi_mem hj)
          exact ⟨this.1, this.2.1⟩
        have HGG : Hid (w.heap.size + 1 ≤ g ∧ g < w2.heap.size ∧ w2.heap.size < w3.heap.size ∧ w3.heap.size < wr.heap.size) := ⟨HG4.out.2.1, HG4.out.1, by have := HG4.out.2.2; omega, hrow.out.row.lt⟩
        clear hck hrk
        cases hq : decide (gi ms k < 0)
        · have HS2 : Hid (firstTo M es (k + 1) = ms) := by
            rw [HST.out]
            unfold stepF
            rw [if_neg (by simpa using hq)]
            rfl
          rw [hq] at hsf
          clear hq
          go_wp2_with fail
          refine hsf.mono ?_
          rintro e w5 ⟨rfl, hb5⟩
          have HO5 : Hid (OwnI w5 (w.heap.size + 1) (.slice (some ⟨g, 0, none⟩) M c0) (firstTo M es (k + 1))) := by
            rw [HS2.out]
            exact howr.out.later hb5
          have HBX5 := Lib.hid (cell_later hb5 hbx)
          have HR5 := Lib.hid (hrow.out.later hb5)
          have HB5 := Lib.hid (below_after hb.out (by have := HGG.out; omega) hb5)
          clear hsf hb5 hbx
          go_wp2_with fail
          go_roundw
          case rel => exact ⟨k + 1, by have := HLT.out; omega, by go_num, HO5, HBX5, HR5, HB5⟩
          case measure => have := HLT.out; simp [intOf]; omega
        · have hq' : gi ms k < 0 := by simpa using hq
          have HQ := Lib.hid hq'
          rw [hq] at hsf
          clear hq hq'
          go_wp2_with fail
          refine hsf.mono ?_
          rintro e w5 ⟨rfl, hb5⟩
          have HO5 := Lib.hid (howr.out.later hb5)
          have HBX5 := Lib.hid (cell_later hb5 hbx)
          have HR5 := Lib.hid (hrow.out.later hb5)
          have HRD5 := Lib.hid (HRD.out.below hb5)
          have HRK5 := Lib.hid (HRK.out.below hb5)
          have HCK5 := Lib.hid (cell_later hb5 HCK.out)
          have HB5 := Lib.hid (below_after hb.out (by have := HGG.out; omega) hb5)
          have HG5 : Hid (w3.heap.size < w5.heap.size) := HR5.out.row.lt
          clear hsf hb5 hbx
          have hck5 := HCK5.out
          have hbx5 := HBX5.out
          have yi : (0 : Int) ≤ (k : Int) ∧ (k : Int) < (M : Int) := by have := HLT.out; omega
          generalize hlen : (nearV es k).length = ln at *
          have HLN := Lib.hid hlen
          clear hlen
          rcases scan_spec ms (nearV es k) ln 0 with ⟨h2, h3⟩ | ⟨i, h2, h3, h4, h5⟩
          · have HS2 : Hid (firstTo M es (k + 1) = ms) := by
              rw [HST.out]
              unfold stepF
              rw [if_pos HQ.out, HLN.out, h2, if_neg (by omega)]
              rfl
            have HSC := Lib.hid h2
            clear h2 h3
            go_wp2_with fail
            go_region_held3 (fun w' => w'.cell? ⟨w3.heap.size, k, none⟩ = some (.slice A1 ln c1) ∧ w'.cell? ⟨w2.heap.size, 0, none⟩ = some (.slice (some ⟨g, 0, none⟩) M c0) ∧ RW w5 w')
              (first | assumption | exact RW.two ⟨HCK5.out, HBX5.out⟩ (RW.refl w5).drew | exact RW.two ⟨HCK5.out, HBX5.out⟩ (RW.later (And.right (And.right (by assumption))) hb9) | fail)
              (first | (go_at_call 49; refine (indexF_any _ (HRK5.out.below (And.right (And.right (by assumption)))) (HRD5.out.below (And.right (And.right (by assumption)))) HNI.out).mono ?_; rw [HSC.out]; rintro e w9 ⟨rfl, hb9⟩) | fail)
            have hrw9 : RW w5 w9 := And.right (And.right (by assumption))
            have HO9 : Hid (OwnI w9 (w.heap.size + 1) (.slice (some ⟨g, 0, none⟩) M c0) (firstTo M es (k + 1))) := by
              rw [HS2.out]
              exact HO5.out.later hrw9
            have HBX9 := Lib.hid (cell_later hrw9 HBX5.out)
            have HR9 := Lib.hid (HR5.out.later hrw9)
            have HB9 := Lib.hid (below_after HB5.out (by have := HGG.out; have := HG5.out; omega) hrw9)
            clear hrw9
            go_wp2_with fail
            go_roundw
            case rel => exact ⟨k + 1, by have := HLT.out; omega, by go_num, HO9, HBX9, HR9, HB9⟩
            case measure => have := HLT.out; simp [intOf]; omega
          · obtain ⟨n0, n1, n2, -, -⟩ := near_in HRI.out (gi_mem (xs := nearV es k) (a := i) (by have := HLN.out; omega))
            obtain ⟨y, hy⟩ : ∃ y : Nat, gi (nearV es k) i = y := ⟨(gi (nearV es k) i).toNat, by omega⟩
            have HS2 : Hid (firstTo M es (k + 1) = (ms.set k (y : Int)).set y (k : Int)) := by
              rw [HST.out]
              unfold stepF
              rw [if_pos HQ.out, HLN.out, h2, if_pos (by omega), Int.toNat_natCast, hy, Int.toNat_natCast]
              rfl
            have HSC := Lib.hid h2
            obtain ⟨bb, oo, rfl, hcc⟩ := HRK5.out.2.2 (by omega)
            have hci := hcc i (by omega)
            rw [hy] at hci n0 n1 n2
            have HCI := Lib.hid hci
            have hyk : y < M ∧ y ≠ k := by omega
            have HYK := Lib.hid hyk
            have hi1 : (0 : Int) ≤ (i : Int) ∧ (i : Int) < (ln : Int) := by omega
            clear h2 h3 h4 h5 hcc n0 n1 n2 hy hci hyk
            go_wp2_with fail
            go_region_held3 (fun w' => w'.cell? ⟨w3.heap.size, k, none⟩ = some (.slice (some ⟨bb, oo, none⟩) ln c1) ∧ w'.cell? ⟨w2.heap.size, 0, none⟩ = some (.slice (some ⟨g, 0, none⟩) M c0) ∧ RW w5 w')
              (first | assumption | exact RW.two ⟨HCK5.out, HBX5.out⟩ (RW.refl w5).drew | exact RW.two ⟨HCK5.out, HBX5.out⟩ (RW.later (And.right (And.right (by assumption))) hb9) | fail)
              (first | (go_at_call 49; refine (indexF_any _ (HRK5.out.below (And.right (And.right (by assumption)))) (HRD5.out.below (And.right (And.right (by assumption)))) HNI.out).mono ?_; rw [HSC.out]; rintro e w9 ⟨rfl, hb9⟩) | fail)
            have hrw9 : RW w5 w9 := And.right (And.right (by assumption))
            have HO9 := Lib.hid (HO5.out.later hrw9)
            have HBX9 := Lib.hid (cell_later hrw9 HBX5.out)
            have HR9 := Lib.hid (HR5.out.later hrw9)
            have HB9 := Lib.hid (below_after HB5.out (by have := HGG.out; have := HG5.out; omega) hrw9)
            have hci := cell_later hrw9 HCI.out
            have hck9 := cell_later hrw9 HCK5.out
            have hbx9 := HBX9.out
            have cg1 := HO9.out.cellAt HLT.out
            have cg2 := HO9.out.cellAt HYK.out.1
            have fg1 := HO9.out.frozAt k
            have fg2 := HO9.out.frozAt y
            have ys : (0 : Int) ≤ (y : Int) ∧ (y : Int) < (M : Int) := by have := HYK.out; omega
            clear hrw9 hck5 hbx5
            go_wp2_with fail
            have HST1 : Hid ((w9.setCell ⟨g, k, none⟩ (.int .i64 (y : Int))).cell? ⟨w2.heap.size, 0, none⟩ = some (.slice (some ⟨g, 0, none⟩) M c0)) := (grown_set _ _ _ _).cell HBX9.out (by intro e; injection e with e; have h1 := HGG.out.2.1; have h2 : w2.heap.size = g := e; omega)
            have HST2 : Hid (((w9.setCell ⟨g, k, none⟩ (.int .i64 (y : Int))).setCell ⟨g, y, none⟩ (.int .i64 (k : Int))).cell? ⟨w2.heap.size, 0, none⟩ = some (.slice (some ⟨g, 0, none⟩) M c0)) := (grown_set2 _ _ _ _ _ _).cell HBX9.out (by intro e; injection e with e; have h1 := HGG.out.2.1; have h2 : w2.heap.size = g := e; omega)
            have cg3 := (HO9.out.put1 k (y : Int)).cellAt HYK.out.1
            have fg3 := (HO9.out.put1 k (y : Int)).frozAt y
            go_region_held3 (fun w' => w'.cell? ⟨w2.heap.size, 0, none⟩ = some (.slice (some ⟨g, 0, none⟩) M c0))
              (first | assumption | exact HBX9.out | exact HST1.out | exact HST2.out | fail) (fail)
            have HO10 : Hid (OwnI ((w9.setCell ⟨g, k, none⟩ (.int .i64 (y : Int))).setCell ⟨g, y, none⟩ (.int .i64 (k : Int))).drew (w.heap.size + 1) (.slice (some ⟨g, 0, none⟩) M c0) (firstTo M es (k + 1))) := by
              rw [HS2.out]
              exact ((HO9.out.put1 k (y : Int)).put1 y (k : Int)).later (RW.refl _).drew
            have HBX10 := Lib.hid (cell_later (RW.refl _).drew HST2.out)
            have HR10 := Lib.hid ((HR9.out.grown (grown_set2 w9 g k y (.int .i64 (y : Int)) (.int .i64 (k : Int))) (by have h1 := HGG.out.2; omega) (Nat.le_succ _)).later (RW.refl _).drew)
            have HB10 : Hid (Below w.heap.size w ((w9.setCell ⟨g, k, none⟩ (.int .i64 (y : Int))).setCell ⟨g, y, none⟩ (.int .i64 (k : Int))).drew) := below_draws (Below.setCell (Below.setCell HB9.out (by have h1 := HGG.out.1; show w.heap.size ≤ g; omega) _) (by have h1 := HGG.out.1; show w.heap.size ≤ g; omega) _) 1
            clear HST1 HST2 cg1 cg2 cg3 fg1 fg2 fg3
            go_wp2_with fail
            go_roundw
            case rel => exact ⟨k + 1, by have := HLT.out; omega, by go_num, HO10, HBX10, HR10, HB10⟩
            case measure => have := HLT.out; simp [intOf]; omega
      · obtain rfl : k = M := by omega
        have hd : decide ((k : Int) < (k : Int)) = false := by rw [decide_eq_false_iff_not]; omega
        clear hlt hk
        have hbx := hbox.out
        go_wp2_with fail
        go_ret
        rw [HFL.out]
        exact ⟨_, rfl, row_weaken howr.out (by omega), hb.out⟩
end

end Go.Proofs.YtbnipgajhpbolaaGreatDoor
