/- The walks of forest.turned and forest.way -/
import Derived.Test.YtbnipgajhpbolaaGreatDoorTe14
set_option linter.unusedVariables false
set_option linter.unusedSimpArgs false
namespace Go.Proofs.YtbnipgajhpbolaaGreatDoor

section
open Go.RowKit
/-- A list whose first, and last, so many have changed places. -/
def revL (xs : List Int) (a : Nat) : List Int := (List.range xs.length).map fun j => if j < a ∨ xs.length ≤ j + a then gi xs (xs.length - 1 - j) else gi xs j
theorem revL_length (xs : List Int) (a : Nat) : (revL xs a).length = xs.length := by simp [revL]
theorem gi_revL {xs : List Int} {a j : Nat} (h : j < xs.length) : gi (revL xs a) j = if j < a ∨ xs.length ≤ j + a then gi xs (xs.length - 1 - j) else gi xs j := by
  conv => lhs; unfold gi revL
  simp [List.getD_eq_getElem?_getD, h]
theorem revL_zero (xs : List Int) : revL xs 0 = xs := list_ext_gi (revL_length _ _) fun j hj => by
  rw [revL_length] at hj
  rw [gi_revL hj, if_neg (by omega)]
theorem gi_reverse {xs : List Int} {j : Nat} (h : j < xs.length) : gi xs.reverse j = gi xs (xs.length - 1 - j) := by
  rw [gi_at (by simpa using h), gi_at (by omega), List.getElem_reverse]
theorem revL_end {xs : List Int} {a : Nat} (h : xs.length ≤ 2 * a + 1) : revL xs a = xs.reverse := list_ext_gi (by simp [revL_length]) fun j hj => by
  rw [revL_length] at hj
  rw [gi_revL hj, gi_reverse hj]
  by_cases q : j < a ∨ xs.length ≤ j + a
  · rw [if_pos q]
  · rw [if_neg q]
    congr 1
    omega
theorem revL_step {xs : List Int} {a : Nat} (h : 2 * a + 1 < xs.length) : ((revL xs a).set a (gi xs (xs.length - 1 - a))).set (xs.length - 1 - a) (gi xs a) = revL xs (a + 1) := list_ext_gi (by simp [revL_length]) fun j hj => by
  rw [List.length_set, List.length_set, revL_length] at hj
  rw [gi_set, gi_set, List.length_set, revL_length, gi_revL hj, gi_revL hj]
  by_cases e1 : j = xs.length - 1 - a
  · subst e1
    rw [if_pos ⟨rfl, hj⟩, if_pos (by omega)]
    congr 1
    omega
  · rw [if_neg (by omega)]
    by_cases e2 : j = a
    · subst e2
      rw [if_pos ⟨rfl, hj⟩, if_pos (by omega)]
    · rw [if_neg (by omega)]
      by_cases q : j < a ∨ xs.length ≤ j + a
      · rw [if_pos q, if_pos (by omega)]
      · rw [if_neg q, if_neg (by omega)]

set_option maxHeartbeats 4000000 in
set_option maxRecDepth 100000 in
theorem turned_any2 {base g n c : Nat} {xs : List Int} (w : World) (h : OwnI w base (.slice (some ⟨g, 0, none⟩) n c) xs) (hn : n ≤ 1000000) :
    Calls Tryz.prog 81 #[.slice (some ⟨g, 0, none⟩) n c] w fun e w' => OwnI w' base (.slice (some ⟨g, 0, none⟩) n c) xs.reverse ∧ w.grownBy w' (some g) ∧ e = .returned (.slice (some ⟨g, 0, none⟩) n c) := by
  have HL := Lib.hid (h.len rfl)
  have HO0 : Hid (OwnI w base (.slice (some ⟨g, 0, none⟩) n c) (revL xs 0)) := by rw [revL_zero]; exact h
  have HG0 : Hid (w.grownBy w (some g)) := World.grownBy.refl _ _
  have HC : Hid (0 < n → True) := fun _ => trivial
  have hn1 : (-1 : Int) ≤ (n : Int) - 1 ∧ (n : Int) - 1 ≤ 1000000 := by omega
  clear h
  go_enter Tryz.func81, Tryz.ntmps81
  go_wp2_with fail
  go_loopw [3, 4] (fun i j wr => ∃ a : Nat, 2 * a ≤ n + 1 ∧ i = .int .i64 a ∧ j = .int .i64 ((n : Int) - 1 - (a : Int)) ∧ Hid (OwnI wr base (.slice (some ⟨g, 0, none⟩) n c) (revL xs a)) ∧ Hid (w.grownBy wr (some g))) (fun i _ _ => n - (intOf i).toNat)
  case atStart => exact ⟨0, by omega, rfl, by go_num, HO0, HG0⟩
  case round =>
    obtain ⟨a, ha, rfl, rfl, how, hgr⟩ := hrel
    by_cases hlt : 2 * a + 1 < n
    · have d1 : decide ((a : Int) < (n : Int) - 1 - (a : Int)) = true := decide_eq_true (by omega)
      have HLT := Lib.hid hlt
      obtain ⟨z, hz⟩ : ∃ z, z = n - 1 - a := ⟨_, rfl⟩
      have HZ := Lib.hid hz
      have ez : (n : Int) - 1 - (a : Int) = (z : Int) := by omega
      have hzn : z < n := by omega
      have han : a < n := by omega
      have hza : z ≠ a := by omega
      have ca := how.out.cellAt han
      have cz := how.out.cellAt hzn
      have fa := how.out.frozAt a
      have hva : gi (revL xs a) a = gi xs a := by rw [gi_revL (by have := HL.out; omega), if_neg (by have := HL.out; omega)]
      have hvz : gi (revL xs a) z = gi xs z := by rw [gi_revL (by have := HL.out; omega), if_neg (by have := HL.out; omega)]
      have HST : Hid (((revL xs a).set a (gi xs z)).set z (gi xs a) = revL xs (a + 1)) := by
        have := revL_step (xs := xs) (a := a) (by have := HL.out; omega)
        rw [← HL.out, ← hz] at this
        exact this
      rw [hva] at ca
      rw [hvz] at cz
      rw [ez]
      clear d1
      have d1 : decide (a < z) = true := decide_eq_true (by omega)
      have haz : a < z := by omega
      have o1 := how.out.put1 a (gi xs z)
      have cz2 := o1.cellAt hzn
      have fz2 := o1.frozAt z
      rw [gi_set, if_neg (by omega), hvz] at cz2
      have HO2 : Hid (OwnI ((wr.setCell ⟨g, a, none⟩ (.int .i64 (gi xs z))).setCell ⟨g, z, none⟩ (.int .i64 (gi xs a))) base (.slice (some ⟨g, 0, none⟩) n c) (revL xs (a + 1))) := by rw [← HST.out]; exact o1.put1 z _
      have HG2 : Hid (w.grownBy ((wr.setCell ⟨g, a, none⟩ (.int .i64 (gi xs z))).setCell ⟨g, z, none⟩ (.int .i64 (gi xs a))) (some g)) := hgr.out.trans (grown_set2 _ _ _ _ _ _)
      have hai : (0 : Int) ≤ (a : Int) ∧ (a : Int) < (n : Int) := by omega
      have hzi : (0 : Int) ≤ (z : Int) ∧ (z : Int) < (n : Int) := by omega
      clear hva hvz o1 ez hz
      generalize gi xs a = p at *
      generalize gi xs z = r at *
      go_wp2_with fail
      have cad := cell_later (RW.refl wr).drew ca
      have czd := cell_later (RW.refl wr).drew cz
      refine wp_region_held_drew (S := fun _ => True) (by kernel_rfl) trivial (fun hHeld => ?_)
      refine wpAnyH_take (i := 0) (oi := ?oiz401x0) (v := ?vz401x0) ?hiz401x0 (by kernel_rfl) (by kernel_rfl) (by kernel_rfl) ?hQz401x0 ?hyz401x0 (by assumption) ?restz401x0
      case hiz401x0 => first | (simp only [List.getElem?_toArray, List.getElem?_cons_zero, List.getElem?_cons_succ]; rfl) | rfl
      case hQz401x0 => exact fun _ _ _ h => h
      case hyz401x0 => (refine Or.inl ⟨by rfl, ?_⟩; intro w hSw; (try dsimp only at hSw); go_simp; (try with_reducible rfl))
      simp only [Act.put, List.setIfInBounds_toArray, List.set_cons_zero, List.set_cons_succ]
      refine wpAnyH_take (i := 1) (oi := ?oiz402x1) (v := ?vz402x1) ?hiz402x1 (by kernel_rfl) (by kernel_rfl) (by kernel_rfl) ?hQz402x1 ?hyz402x1 (by assumption) ?restz402x1
      case hiz402x1 => first | (simp only [List.getElem?_toArray, List.getElem?_cons_zero, List.getElem?_cons_succ]; rfl) | rfl
      case hQz402x1 => exact fun _ _ _ h => h
      case hyz402x1 => (refine Or.inl ⟨by rfl, ?_⟩; intro w hSw; (try dsimp only at hSw); go_simp; (try with_reducible rfl))
      simp only [Act.put, List.setIfInBounds_toArray, List.set_cons_zero, List.set_cons_succ]
      refine wpAnyH_take (i := 2) (oi := ?oiz403x2) (v := ?vz403x2) ?hiz403x2 (by kernel_rfl) (by kernel_rfl) (by kernel_rfl) ?hQz403x2 ?hyz403x2 (by assumption) ?restz403x2
      case hiz403x2 => first | (simp only [List.getElem?_toArray, List.getElem?_cons_zero, List.getElem?_cons_succ]; rfl) | rfl
      case hQz403x2 => exact fun _ _ _ h => h
      case hyz403x2 => (refine Or.inl ⟨by rfl, ?_⟩; intro w hSw; (try dsimp only at hSw); go_simp; (try with_reducible rfl))
      simp only [Act.put, List.setIfInBounds_toArray, List.set_cons_zero, List.set_cons_succ]
      refine wpAnyH_take (i := 3) (oi := ?oiz404x3) (v := ?vz404x3) ?hiz404x3 (by kernel_rfl) (by kernel_rfl) (by kernel_rfl) ?hQz404x3 ?hyz404x3 (by assumption) ?restz404x3
      case hiz404x3 => first | (simp only [List.getElem?_toArray, List.getElem?_cons_zero, List.getElem?_cons_succ]; rfl) | rfl
      case hQz404x3 => exact fun _ _ _ h => h
      case hyz404x3 => (refine Or.inl ⟨by rfl, ?_⟩; intro w hSw; (try dsimp only at hSw); go_simp; (try with_reducible rfl))
      simp only [Act.put, List.setIfInBounds_toArray, List.set_cons_zero, List.set_cons_succ]
      refine wpAnyH_take (i := 4) (oi := ?oiz405x4) (v := ?vz405x4) ?hiz405x4 (by kernel_rfl) (by kernel_rfl) (by kernel_rfl) ?hQz405x4 ?hyz405x4 (by assumption) ?restz405x4
      case hiz405x4 => first | (simp only [List.getElem?_toArray, List.getElem?_cons_zero, List.getElem?_cons_succ]; rfl) | rfl
      case hQz405x4 => exact fun _ _ _ h => h
      case hyz405x4 => (refine Or.inl ⟨by rfl, ?_⟩; intro w hSw; (try dsimp only at hSw); go_simp; (try with_reducible rfl))
      simp only [Act.put, List.setIfInBounds_toArray, List.set_cons_zero, List.set_cons_succ]
      refine wpAnyH_take (i := 5) (oi := ?oiz406x5) (v := ?vz406x5) ?hiz406x5 (by kernel_rfl) (by kernel_rfl) (by kernel_rfl) ?hQz406x5 ?hyz406x5 (by assumption) ?restz406x5
      case hiz406x5 => first | (simp only [List.getElem?_toArray, List.getElem?_cons_zero, List.getElem?_cons_succ]; rfl) | rfl
      case hQz406x5 => exact fun _ _ _ h => h
      case hyz406x5 => (refine Or.inl ⟨by rfl, ?_⟩; intro w hSw; (try dsimp only at hSw); go_simp; (try with_reducible rfl))
      simp only [Act.put, List.setIfInBounds_toArray, List.set_cons_zero, List.set_cons_succ]
      refine wpAnyH_take (i := 6) (oi := ?oiz407x6) (v := ?vz407x6) ?hiz407x6 (by kernel_rfl) (by kernel_rfl) (by kernel_rfl) ?hQz407x6 ?hyz407x6 (by assumption) ?restz407x6
      case hiz407x6 => first | (simp only [List.getElem?_toArray, List.getElem?_cons_zero, List.getElem?_cons_succ]; rfl) | rfl
      case hQz407x6 => exact fun _ _ _ h => h
      case hyz407x6 => (refine Or.inl ⟨by rfl, ?_⟩; intro w hSw; (try dsimp only at hSw); go_simp; (try with_reducible rfl))
      simp only [Act.put, List.setIfInBounds_toArray, List.set_cons_zero, List.set_cons_succ]
      refine wpAnyH_take (i := 8) (oi := ?oiz408x8) (v := ?vz408x8) ?hiz408x8 (by kernel_rfl) (by kernel_rfl) (by kernel_rfl) ?hQz408x8 ?hyz408x8 (by assumption) ?restz408x8
      case hiz408x8 => first | (simp only [List.getElem?_toArray, List.getElem?_cons_zero, List.getElem?_cons_succ]; rfl) | rfl
      case hQz408x8 => exact fun _ _ _ h => h
      case hyz408x8 => (refine Or.inl ⟨by rfl, ?_⟩; intro w hSw; (try dsimp only at hSw); go_simp; (try with_reducible rfl))
      simp only [Act.put, List.setIfInBounds_toArray, List.set_cons_zero, List.set_cons_succ]
      refine wpAnyH_take (i := 9) (oi := ?oiz409x9) (v := ?vz409x9) ?hiz409x9 (by kernel_rfl) (by kernel_rfl) (by kernel_rfl) ?hQz409x9 ?hyz409x9 (by assumption) ?restz409x9
      case hiz409x9 => first | (simp only [List.getElem?_toArray, List.getElem?_cons_zero, List.getElem?_cons_succ]; rfl) | rfl
      case hQz409x9 => exact fun _ _ _ h => h
      case hyz409x9 => (refine Or.inl ⟨by rfl, ?_⟩; intro w hSw; (try dsimp only at hSw); go_simp; (try with_reducible rfl))
      simp only [Act.put, List.setIfInBounds_toArray, List.set_cons_zero, List.set_cons_succ]
      refine wpAnyH_take (i := 10) (oi := ?oiz410x10) (v := ?vz410x10) ?hiz410x10 (by kernel_rfl) (by kernel_rfl) (by kernel_rfl) ?hQz410x10 ?hyz410x10 (by assumption) ?restz410x10
      case hiz410x10 => first | (simp only [List.getElem?_toArray, List.getElem?_cons_zero, List.getElem?_cons_succ]; rfl) | rfl
      case hQz410x10 => exact fun _ _ _ h => h
      case hyz410x10 => (refine Or.inl ⟨by rfl, ?_⟩; intro w hSw; (try dsimp only at hSw); go_simp; (try with_reducible rfl))
      simp only [Act.put, List.setIfInBounds_toArray, List.set_cons_zero, List.set_cons_succ]
      refine wpAnyH_ready (rs := [7, 11]) (by kernel_rfl) (by simp) ?_
      refine AllReadyH.cons rfl (fun K hK => ?_) (AllReadyH.cons rfl (fun K hK => ?_) AllReadyH.nil)
      all_goals go_simp
      · refine hK.out _ _ trivial (fun hHeld => ?_)
        clear hK K
        (try simp only [Act.put, List.setIfInBounds_toArray, List.set_cons_zero, List.set_cons_succ])
        refine wpAnyH_ready (rs := [11]) (by kernel_rfl) (by simp) ?_
        refine AllReadyH.cons rfl (fun K hK => ?_) AllReadyH.nil
        go_simp
        refine hK.out _ _ trivial (fun hHeld => ?_)
        clear hK K
        (try simp only [Act.put, List.setIfInBounds_toArray, List.set_cons_zero, List.set_cons_succ])
        refine wpAnyH_take (i := 12) (oi := ?oiz411x12) (v := ?vz411x12) ?hiz411x12 (by kernel_rfl) (by kernel_rfl) (by kernel_rfl) ?hQz411x12 ?hyz411x12 (by assumption) ?restz411x12
        case hiz411x12 => first | (simp only [List.getElem?_toArray, List.getElem?_cons_zero, List.getElem?_cons_succ]; rfl) | rfl
        case hQz411x12 => exact fun _ _ _ h => h
        case hyz411x12 => (refine Or.inl ⟨by rfl, ?_⟩; intro w hSw; (try dsimp only at hSw); go_simp; (try with_reducible rfl))
        simp only [Act.put, List.setIfInBounds_toArray, List.set_cons_zero, List.set_cons_succ]
        refine wpAnyH_ready (rs := [13]) (by kernel_rfl) (by simp) ?_
        refine AllReadyH.cons rfl (fun K hK => ?_) AllReadyH.nil
        go_simp
        refine hK.out _ _ trivial (fun hHeld => ?_)
        clear hK K
        (try simp only [Act.put, List.setIfInBounds_toArray, List.set_cons_zero, List.set_cons_succ])
        refine wpAnyH_take (i := 14) (oi := ?oiz412x14) (v := ?vz412x14) ?hiz412x14 (by kernel_rfl) (by kernel_rfl) (by kernel_rfl) ?hQz412x14 ?hyz412x14 (by assumption) ?restz412x14
        case hiz412x14 => first | (simp only [List.getElem?_toArray, List.getElem?_cons_zero, List.getElem?_cons_succ]; rfl) | rfl
        case hQz412x14 => exact fun _ _ _ h => h
        case hyz412x14 => (refine Or.inl ⟨by rfl, ?_⟩; intro w hSw; (try dsimp only at hSw); go_simp; (try with_reducible rfl))
        simp only [Act.put, List.setIfInBounds_toArray, List.set_cons_zero, List.set_cons_succ]
        refine wpAnyH_ready (rs := [15]) (by kernel_rfl) (by simp) ?_
        refine AllReadyH.cons rfl (fun K hK => ?_) AllReadyH.nil
        go_simp
        refine hK.out _ _ trivial (fun hHeld => ?_)
        clear hK K
        (try simp only [Act.put, List.setIfInBounds_toArray, List.set_cons_zero, List.set_cons_succ])
        refine wpAnyH_done (by kernel_rfl) ?_ _
        have HO3 := Lib.hid (HO2.out.later (RW.refl _).drew)
        have HG3 : Hid (w.grownBy ((wr.setCell ⟨g, a, none⟩ (.int .i64 r)).setCell ⟨g, z, none⟩ (.int .i64 p)).drew (some g)) := ⟨HG2.out.os, HG2.out.tape, HG2.out.output, HG2.out.size, HG2.out.block⟩
        clear ca cz fa cz2 fz2 cad czd d1
        go_wp2_with fail
        go_roundw
        case rel => exact ⟨a + 1, by have := HLT.out; omega, by go_num, by have := HZ.out; have := HLT.out; go_num, HO3, HG3⟩
        case measure => have := HLT.out; simp [intOf]; omega
      · refine hK.out _ _ trivial (fun hHeld => ?_)
        clear hK K
        (try simp only [Act.put, List.setIfInBounds_toArray, List.set_cons_zero, List.set_cons_succ])
        refine wpAnyH_ready (rs := [7]) (by kernel_rfl) (by simp) ?_
        refine AllReadyH.cons rfl (fun K hK => ?_) AllReadyH.nil
        go_simp
        refine hK.out _ _ trivial (fun hHeld => ?_)
        clear hK K
        (try simp only [Act.put, List.setIfInBounds_toArray, List.set_cons_zero, List.set_cons_succ])
        refine wpAnyH_take (i := 12) (oi := ?oiz413x12) (v := ?vz413x12) ?hiz413x12 (by kernel_rfl) (by kernel_rfl) (by kernel_rfl) ?hQz413x12 ?hyz413x12 (by assumption) ?restz413x12
        case hiz413x12 => first | (simp only [List.getElem?_toArray, List.getElem?_cons_zero, List.getElem?_cons_succ]; rfl) | rfl
        case hQz413x12 => exact fun _ _ _ h => h
        case hyz413x12 => (refine Or.inl ⟨by rfl, ?_⟩; intro w hSw; (try dsimp only at hSw); go_simp; (try with_reducible rfl))
        simp only [Act.put, List.setIfInBounds_toArray, List.set_cons_zero, List.set_cons_succ]
        refine wpAnyH_ready (rs := [13]) (by kernel_rfl) (by simp) ?_
        refine AllReadyH.cons rfl (fun K hK => ?_) AllReadyH.nil
        go_simp
        refine hK.out _ _ trivial (fun hHeld => ?_)
        clear hK K
        (try simp only [Act.put, List.setIfInBounds_toArray, List.set_cons_zero, List.set_cons_succ])
        refine wpAnyH_take (i := 14) (oi := ?oiz414x14) (v := ?vz414x14) ?hiz414x14 (by kernel_rfl) (by kernel_rfl) (by kernel_rfl) ?hQz414x14 ?hyz414x14 (by assumption) ?restz414x14
        case hiz414x14 => first | (simp only [List.getElem?_toArray, List.getElem?_cons_zero, List.getElem?_cons_succ]; rfl) | rfl
        case hQz414x14 => exact fun _ _ _ h => h
        case hyz414x14 => (refine Or.inl ⟨by rfl, ?_⟩; intro w hSw; (try dsimp only at hSw); go_simp; (try with_reducible rfl))
        simp only [Act.put, List.setIfInBounds_toArray, List.set_cons_zero, List.set_cons_succ]
        refine wpAnyH_ready (rs := [15]) (by kernel_rfl) (by simp) ?_
        refine AllReadyH.cons rfl (fun K hK => ?_) AllReadyH.nil
        go_simp
        refine hK.out _ _ trivial (fun hHeld => ?_)
        clear hK K
        (try simp only [Act.put, List.setIfInBounds_toArray, List.set_cons_zero, List.set_cons_succ])
        refine wpAnyH_done (by kernel_rfl) ?_ _
        have HO3 := Lib.hid (HO2.out.later (RW.refl _).drew)
        have HG3 : Hid (w.grownBy ((wr.setCell ⟨g, a, none⟩ (.int .i64 r)).setCell ⟨g, z, none⟩ (.int .i64 p)).drew (some g)) := ⟨HG2.out.os, HG2.out.tape, HG2.out.output, HG2.out.size, HG2.out.block⟩
        clear ca cz fa cz2 fz2 cad czd d1
        go_wp2_with fail
        go_roundw
        case rel => exact ⟨a + 1, by have := HLT.out; omega, by go_num, by have := HZ.out; have := HLT.out; go_num, HO3, HG3⟩
        case measure => have := HLT.out; simp [intOf]; omega
    · have d1 : decide ((a : Int) < (n : Int) - 1 - (a : Int)) = false := decide_eq_false (by omega)
      have HRV : Hid (revL xs a = xs.reverse) := revL_end (by have := HL.out; omega)
      clear hlt
      go_wp2_with fail
      go_ret
      exact ⟨by rw [← HRV.out]; exact how.out, hgr.out, rfl⟩

/-- The forest that is in memory. -/
def Fm.fo (s : Fm) (B : Nat → Nat) : Fo := ⟨s.lab, s.ou, s.pd, s.rt, s.b1, s.b2, B⟩

section
variable {base N F : Nat} {g : Nat → Nat} {nv mv : Value} {s : Fm} {B : Nat → Nat} {mt : Nat → Int}
theorem own_one (W : World) (x : Int) : ReadI (W.alloc (.cells #[.int .i64 x] 3)) (some ⟨W.heap.size, 0, none⟩) 1 [x] := by
  refine ⟨rfl, by omega, fun _ => ⟨W.heap.size, 0, rfl, fun j hj => ?_⟩⟩
  obtain rfl : j = 0 := by omega
  exact cell_blk (g := W.heap.size) (t := 3) (cs := #[.int .i64 x]) (by show (W.heap.push _)[W.heap.size]? = _; rw [Array.getElem?_push_size]) 0

/-- Who the way of a forest in memory goes by, all below N. -/
theorem Vis.parts {J : Nat → Nat → Prop} {t : Fo} (hm : MtOk N J mt) (hi : FoI N J mt t) {v c : Nat} {q : List Int} (h : Vis mt t v c q) (hv : v < N) (hne : v ≠ c) :
    (t.lab v = 1 ∧ ∃ m p : Nat, ∃ q' : List Int, m < N ∧ p < N ∧ mt v = (m : Int) ∧ t.pd m = (p : Int) ∧ Vis mt t p c q' ∧ q = (v : Int) :: (m : Int) :: q') ∨
    (t.lab v ≠ 1 ∧ ∃ m a b : Nat, ∃ q1 q' : List Int, m < N ∧ a < N ∧ b < N ∧ mt v = (m : Int) ∧ t.b1 v = (a : Int) ∧ t.b2 v = (b : Int) ∧ Vis mt t a m q1 ∧ Vis mt t b c q' ∧ q = (v : Int) :: ((q1 ++ [(m : Int)]).reverse ++ q')) := by
  cases h with
  | here _ => exact absurd rfl hne
  | @even _ _ m p q' e1 e2 e3 e4 e5 e6 k =>
    obtain ⟨m1, -⟩ := hm.back hv e4
    obtain ⟨x, p', k1, k2, k3, k4, k5, k6, -⟩ := hi.od m m1 e5
    obtain rfl : p = p' := by omega
    exact .inl ⟨e2, m, p, q', m1, k2, e4, e6, k, rfl⟩
  | @odd _ _ m a b q1 q' e1 e2 e3 e4 e5 e6 k1 k2 =>
    obtain ⟨m1, -⟩ := hm.back hv e4
    have hl : t.lab v = 2 := by
      rcases hi.lab v hv with k | k | k
      · have := (hi.out v hv k).1
        rw [e1] at this
        cases this
      · exact absurd k e2
      · exact k
    obtain ⟨a', b', j1, j2, j3, j4, -⟩ := hi.br v hv hl e1
    obtain rfl : a = a' := by omega
    obtain rfl : b = b' := by omega
    exact .inr ⟨e2, m, a, b, q1, q', m1, j1, j2, e4, e5, e6, k1, k2, rfl⟩

set_option maxHeartbeats 16000000 in
set_option maxRecDepth 100000 in
theorem fway_any {J : Nat → Nat → Prop} (hmt : MtOk N J mt) (hi : FoI N J mt (s.fo B)) : ∀ n : Nat, ∀ {v c : Nat} {q : List Int} (w : World), q.length = n → q.length ≤ 1000000 → v < N → Vis mt (s.fo B) v c q → FW base N F g nv mv s w → base ≤ w.heap.size → MR base N mv mt w →
    Calls Tryz.prog 82 #[.pointer (some ⟨F, 0, none⟩), .int .i64 v, .int .i64 c] w fun e w' => ∃ val, e = .returned val ∧ OwnI w' w.heap.size val (q ++ [(c : Int)]) ∧ Below w.heap.size w w' := by
  intro n
  induction n using Nat.strongRecOn with
  | ind n ih =>
    intro v c q w hn hqb hv hvis h hbs hm
    have IH : Hid (∀ (a m : Nat) (q1 : List Int) (W : World), q1.length < n → q1.length ≤ 1000000 → a < N → Vis mt (s.fo B) a m q1 → FW base N F g nv mv s W → base ≤ W.heap.size → MR base N mv mt W →
      Calls Tryz.prog 82 #[.pointer (some ⟨F, 0, none⟩), .int .i64 a, .int .i64 m] W fun e w' => ∃ val, e = .returned val ∧ OwnI w' W.heap.size val (q1 ++ [(m : Int)]) ∧ Below W.heap.size W w') := fun a m q1 W k1 k2 k3 k4 k5 k6 k7 => ih _ k1 W rfl k2 k3 k4 k5 k6 k7
    have HMT := Lib.hid hmt
    have HI := Lib.hid hi
    have HW := Lib.hid (And.intro h (And.intro hbs hm))
    have HQB := Lib.hid hqb
    have HN := Lib.hid hn
    have HV0 : Hid (Vis mt (s.fo B) v c q ∧ v < N) := ⟨hvis, hv⟩
    have HR0 : Hid (RW w w) := RW.refl w
    have HO0 : Hid (OwnI w w.heap.size (.slice none 0 0) []) := ownI_empty _ _
    clear ih hn hqb hv hvis h hbs hm
    go_enter Tryz.func82, Tryz.ntmps82
    go_wp2_with fail
    go_loopg [1, 7, 8] q.length (fun k t l _ wr => ∃ (x : Nat) (acc qr : List Int), t = .int .i64 x ∧ Hid (OwnI wr w.heap.size l acc) ∧ Hid (Vis mt (s.fo B) x c qr ∧ x < N) ∧ Hid (acc ++ (qr ++ [(c : Int)]) = q ++ [(c : Int)]) ∧ Hid (k = qr.length) ∧ Hid (RW w wr))
    case atStart => exact ⟨v, [], q, rfl, HO0, HV0, rfl, rfl, HR0⟩
    case round =>
      obtain ⟨x, acc, qr, rfl, how, hvx, hac, hk, hrw⟩ := hrel
      have HACC : Hid (acc.length + qr.length = q.length) := by
        have := congrArg List.length hac.out
        simp only [List.length_append, List.length_cons, List.length_nil] at this
        unfold Hid; omega
      have hb1 := bel_alloc wr (.cells #[.int .i64 (x : Int)] 3)
      have HRD := Lib.hid (own_one wr (x : Int))
      have HO1 := Lib.hid (own_later how.out hb1)
      have HRW1 := Lib.hid (RW.later hrw.out hb1)
      have HSZ1 : Hid (w.heap.size ≤ (wr.alloc (.cells #[.int .i64 (x : Int)] 3)).heap.size) := HRW1.out.size
      clear hb1
      by_cases hxc : x = c
      · subst hxc
        have hq0 : qr = [] := hvx.out.1.nil
        subst hq0
        go_wp2_with (at_builtin; refine list_appI w.heap.size rfl _ _ rfl u7 acc [(x : Int)] rfl HO1.out HSZ1.out _ 1 1 rfl HRD.out (by have := HACC.out; have := HQB.out; simp at this ⊢; omega) ?_; intro v1 w8 o1 g1 a1; have HO8 := Lib.hid o1; have HRW8 := Lib.hid (RW.grown HRW1.out g1 (row_base HO1.out)))
        go_ret
        refine ⟨_, rfl, ?_, HRW8.out⟩
        have := HO8.out
        rw [show acc ++ [(x : Int)] = q ++ [(x : Int)] from by have := hac.out; simpa using this] at this
        exact this
      · have hxcb : ((x : Int) == (c : Int)) = false := by simp; omega
        have hxi : (0 : Int) ≤ (x : Int) ∧ (x : Int) < (N : Int) := by have := hvx.out.2; omega
        have hxN := hvx.out.2
        obtain ⟨mb, mo, mc, hmv, mb1, mb2⟩ := HW.out.2.2.open (by omega)
        have hmc : ∀ W, RW w W → W.cell? ⟨mb, mo + x, none⟩ = some (.int .i64 (mt x)) := fun W r => cell_later r (mb2 x hxN)
        have MB := Lib.hid hmc
        have hap : acc.length + 2 ≤ 1000000000 := by have := HACC.out; have := HQB.out; omega
        rcases hvx.out.1.parts HMT.out HI.out hxN hxc with ⟨hlab, m, p, q', hmN, hpN, e4, e6, hv', hqr⟩ | ⟨hlab, m, a, b, q1, q', hmN, haN, hbN, e4, e5, e6, hva, hv', hqr⟩
        · have hlab' : s.lab x = 1 := hlab
          have e6' : s.pd m = (p : Int) := e6
          have hmi : (0 : Int) ≤ (m : Int) ∧ (m : Int) < (N : Int) := by omega
          have HE := Lib.hid (And.intro hlab' (And.intro e6' e4))
          have HMN : Hid (x < N ∧ m < N) := ⟨hxN, hmN⟩
          have HNX : Hid (Vis mt (s.fo B) p c q' ∧ p < N) := ⟨hv', hpN⟩
          have HQR := Lib.hid hqr
          clear hmc mb2 hlab hlab' e4 e6 e6' hv' hqr hpN hmN hxN
          go_wp2_with (first
            | (at_builtin; refine list_appI w.heap.size rfl _ _ rfl u7 acc [(x : Int)] rfl HO1.out HSZ1.out _ 1 1 rfl HRD.out (by omega) ?_; intro v1 w8 o1 g1 a1; have rw8 := RW.grown HRW1.out g1 (row_base HO1.out); have HRW8 := Lib.hid rw8; have h8 := HW.out.1.later rw8; have z1 := h8.h1; have z2 := h8.h2; have z3 := h8.c_lab HMN.out.1; have z4 := MB.out w8 rw8; rw [HE.out.1] at z3; rw [HE.out.2.2] at z4; rw [hmv] at z1; have HO8 := Lib.hid (own_later o1 (bel_alloc w8 (.cells #[.int .i64 (m : Int)] 3))); have HRD8 := Lib.hid (own_one w8 (m : Int)); have HSZ8 : Hid (w.heap.size ≤ (w8.alloc (.cells #[.int .i64 (m : Int)] 3)).heap.size) := (RW.later rw8 (bel_alloc w8 _)).size; clear h8 rw8 o1 g1 a1)
            | (at_builtin; refine list_appI w.heap.size rfl _ _ rfl v1 (acc ++ [(x : Int)]) [(m : Int)] rfl HO8.out HSZ8.out _ 1 1 rfl HRD8.out (by simp; omega) ?_; intro v2 w9 o2 g2 a2; have rw9 := RW.grown (RW.later HRW8.out (bel_alloc w8 _)) g2 (row_base HO8.out); have HRW9 := Lib.hid rw9; have h9 := HW.out.1.later rw9; have y1 := h9.h1; have y6 := h9.h6; have y4 := MB.out w9 rw9; have yp := h9.c_pd HMN.out.2; rw [HE.out.2.2] at y4; rw [HE.out.2.1] at yp; rw [hmv] at y1; have HO9 := Lib.hid o2; clear h9 rw9 o2 g2 a2 z1 z2 z3 z4))
          go_quiet (fail)
          rename_i nq
          have HD : Hid (RW w9 (w9.drewN nq)) := ((Drawn.refl w9).step nq).below _
          have HOE := Lib.hid (own_later HO9.out HD.out)
          have HRE := Lib.hid (RW.later HRW9.out HD.out)
          have HAC2 : Hid (((acc ++ [(x : Int)]) ++ [(m : Int)]) ++ (q' ++ [(c : Int)]) = q ++ [(c : Int)]) := by
            have := hac.out
            rw [HQR.out] at this
            unfold Hid
            simpa using this
          clear y1 y6 y4 yp
          go_wp2_with fail
          go_roundg q'.length
          case rel => exact ⟨p, _, q', rfl, HOE, HNX, HAC2, rfl, HRE⟩
          case measure => have h1 := hk.out; have h2 := congrArg List.length HQR.out; simp only [List.length_cons] at h2; omega
        · have hlab' : (s.lab x == 1) = false := by rw [beq_eq_false_iff_ne]; exact hlab
          have e5' : s.b1 x = (a : Int) := e5
          have e6' : s.b2 x = (b : Int) := e6
          have hmi : (0 : Int) ≤ (m : Int) ∧ (m : Int) < (N : Int) := by omega
          have HE := Lib.hid (And.intro e5' (And.intro e6' e4))
          have HMN : Hid (x < N ∧ m < N) := ⟨hxN, hmN⟩
          have HNX : Hid (Vis mt (s.fo B) b c q' ∧ b < N) := ⟨hv', hbN⟩
          have HVA : Hid (Vis mt (s.fo B) a m q1 ∧ a < N) := ⟨hva, haN⟩
          have HQR := Lib.hid hqr
          have HLN : Hid (q1.length + q'.length + 2 = qr.length) := by
            unfold Hid
            rw [hqr]
            simp only [List.length_cons, List.length_append, List.length_reverse, List.length_nil]
            omega
          have hl1 : (q1 ++ [(m : Int)]).length = q1.length + 1 := by simp
          clear hmc mb2 hlab e4 e5 e5' e6 e6' hv' hva hqr hbN haN hmN hxN
          go_wp2_with (at_builtin; refine list_appI w.heap.size rfl _ _ rfl u7 acc [(x : Int)] rfl HO1.out HSZ1.out _ 1 1 rfl HRD.out (by omega) ?_; intro v1 w8 o1 g1 a1; have rw8 := RW.grown HRW1.out g1 (row_base HO1.out); have HRW8 := Lib.hid rw8; have h8 := HW.out.1.later rw8; have z1 := h8.h1; have z2 := h8.h2; have z3 := h8.c_lab HMN.out.1; have z4 := MB.out w8 rw8; have z8 := h8.h8; have z9 := (h8.br.at HMN.out.1).1; have z10 := (h8.br.at HMN.out.1).2; rw [HE.out.1] at z9; rw [HE.out.2.1] at z10; rw [HE.out.2.2] at z4; rw [hmv] at z1; have HO8 := Lib.hid o1; clear h8 rw8 o1 g1 a1)
          have hb9 := bel_alloc w8 (.cells #[.int .i64 (a : Int), .int .i64 (b : Int)] 135)
          have HO9 := Lib.hid (own_later HO8.out hb9)
          have HRW9 := Lib.hid (RW.later HRW8.out hb9)
          have hOL := row_lt HO8.out
          obtain ⟨SB, hSB⟩ : ∃ SB, SB = w8.heap.size := ⟨_, rfl⟩
          have hnb := heap_alloc_new w8 (.cells #[.int .i64 (a : Int), .int .i64 (b : Int)] 135)
          have HC9 : Hid ((w8.alloc (.cells #[.int .i64 (a : Int), .int .i64 (b : Int)] 135)).cell? ⟨F, 1, none⟩ = some (.slice (some ⟨mb, mo, none⟩) N mc) ∧ (w8.alloc (.cells #[.int .i64 (a : Int), .int .i64 (b : Int)] 135)).cell? ⟨mb, mo + x, none⟩ = some (.int .i64 m) ∧ (w8.alloc (.cells #[.int .i64 (a : Int), .int .i64 (b : Int)] 135)).cell? ⟨SB, 0, none⟩ = some (.int .i64 a) ∧ (w8.alloc (.cells #[.int .i64 (a : Int), .int .i64 (b : Int)] 135)).cell? ⟨SB, 1, none⟩ = some (.int .i64 b)) := by
            rw [hSB]
            exact ⟨cell_later hb9 z1, cell_later hb9 z4, (cell_blk hnb 0).trans rfl, (cell_blk hnb 1).trans rfl⟩
          have hs9 : (w8.alloc (.cells #[.int .i64 (a : Int), .int .i64 (b : Int)] 135)).heap.size = w8.heap.size + 1 := by simp
          have HSB : Hid (SB < (w8.alloc (.cells #[.int .i64 (a : Int), .int .i64 (b : Int)] 135)).heap.size ∧ w.heap.size ≤ SB ∧ ∀ k, v1.ownBlock = some k → k < SB) := ⟨by omega, by rw [hSB]; exact HRW8.out.size, fun k hk => by rw [hSB]; exact hOL k hk⟩
          rw [← hSB]
          clear hb9 hOL hnb hs9 hSB z1 z2 z3 z4 z8 z9 z10
          generalize w8.alloc (.cells #[.int .i64 (a : Int), .int .i64 (b : Int)] 135) = w9 at *
          have hway := IH.out a m q1 w9.drew (by have := HLN.out; have := HACC.out; have := HN.out; omega) (by have := HLN.out; have := HACC.out; have := HQB.out; omega) HVA.out.2 HVA.out.1 (HW.out.1.later (RW.later HRW9.out (RW.refl w9).drew)) (Nat.le_trans HW.out.2.1 (RW.later HRW9.out (RW.refl w9).drew).size) (HW.out.2.2.below (Below.mono (RW.later HRW9.out (RW.refl w9).drew) HW.out.2.1))
          have HWAY := Lib.hid hway
          clear hway
          have T0 : Hid (w9.drew.cell? ⟨F, 1, none⟩ = some (.slice (some ⟨mb, mo, none⟩) N mc) ∧ w9.drew.cell? ⟨mb, mo + x, none⟩ = some (.int .i64 m) ∧ w9.drew.cell? ⟨SB, 0, none⟩ = some (.int .i64 a) ∧ w9.drew.cell? ⟨SB, 1, none⟩ = some (.int .i64 b)) := HC9.out
          go_wp2_with fail
          go_region_held3 (fun w' => w'.cell? ⟨F, 1, none⟩ = some (.slice (some ⟨mb, mo, none⟩) N mc) ∧ w'.cell? ⟨mb, mo + x, none⟩ = some (.int .i64 m) ∧ w'.cell? ⟨SB, 0, none⟩ = some (.int .i64 a) ∧ w'.cell? ⟨SB, 1, none⟩ = some (.int .i64 b))
            (first | assumption | exact T0.out | exact T1.out | exact T2.out | exact T3.out | fail)
            (first
              | (go_at_call 82; refine HWAY.out.mono ?_; rintro e w10 ⟨val, rfl, own10, hb10⟩; obtain ⟨GB, CB, rfl, hgb, -, -⟩ := own_slice own10 (by simp); rw [hl1] at own10 ⊢; have T1 : Hid (w10.cell? ⟨F, 1, none⟩ = some (.slice (some ⟨mb, mo, none⟩) N mc) ∧ w10.cell? ⟨mb, mo + x, none⟩ = some (.int .i64 m) ∧ w10.cell? ⟨SB, 0, none⟩ = some (.int .i64 a) ∧ w10.cell? ⟨SB, 1, none⟩ = some (.int .i64 b)) := ⟨cell_later hb10 T0.out.1, cell_later hb10 T0.out.2.1, cell_later hb10 T0.out.2.2.1, cell_later hb10 T0.out.2.2.2⟩)
              | (go_at_call 81; refine (turned_any2 (c := CB) w10 own10 (by have := HLN.out; have := HACC.out; have := HQB.out; omega)).mono ?_; rintro e w11 ⟨own11, gr11, rfl⟩; have rb11 : RW w9.drew w11 := RW.grown hb10 gr11 (by intro k hk; injection hk with hk; omega); have T2 : Hid (w11.cell? ⟨F, 1, none⟩ = some (.slice (some ⟨mb, mo, none⟩) N mc) ∧ w11.cell? ⟨mb, mo + x, none⟩ = some (.int .i64 m) ∧ w11.cell? ⟨SB, 0, none⟩ = some (.int .i64 a) ∧ w11.cell? ⟨SB, 1, none⟩ = some (.int .i64 b)) := ⟨cell_later rb11 T0.out.1, cell_later rb11 T0.out.2.1, cell_later rb11 T0.out.2.2.1, cell_later rb11 T0.out.2.2.2⟩)
              | (refine step_appI (w := w11) w.heap.size (by rfl) _ _ (by rfl) v1 (acc ++ [(x : Int)]) (q1 ++ [(m : Int)]).reverse (by rfl) (own_grown (own_later (own_later HO9.out (RW.refl w9).drew) hb10) gr11 (by intro k hk e; injection e with e; have h1 := HSB.out.2.2 k hk; have h2 := HSB.out.1; have h3 : w9.heap.size ≤ GB := hgb; omega)) (Nat.le_trans (RW.later HRW9.out (RW.refl w9).drew).size rb11.size) (some ⟨GB, 0, none⟩) (q1.length + 1) CB (by rfl) (by have := readI_own own11; rw [List.length_reverse, hl1] at this; exact this) (by have := HLN.out; have := HACC.out; have := HQB.out; simp; omega) ?_; intro v12 w12 own12 gr12 h12; have rb12 : RW w w12 := RW.grown (RW.later HRW9.out (below_after (RW.refl w9).drew (RW.refl w9).drew.size rb11)) gr12 (row_base HO9.out); have T3 : Hid (w12.cell? ⟨F, 1, none⟩ = some (.slice (some ⟨mb, mo, none⟩) N mc) ∧ w12.cell? ⟨mb, mo + x, none⟩ = some (.int .i64 m) ∧ w12.cell? ⟨SB, 0, none⟩ = some (.int .i64 a) ∧ w12.cell? ⟨SB, 1, none⟩ = some (.int .i64 b)) := ⟨gr12.cell T2.out.1 (by intro e; have h1 : w.heap.size ≤ F := row_base HO9.out _ e.symm; have h2 : F < w.heap.size := HW.out.1.lt; omega), gr12.cell T2.out.2.1 (by intro e; have h1 : w.heap.size ≤ mb := row_base HO9.out _ e.symm; have h2 := HW.out.2.1; omega), gr12.cell T2.out.2.2.1 (by intro e; have h1 : SB < SB := HSB.out.2.2 _ e.symm; omega), gr12.cell T2.out.2.2.2 (by intro e; have h1 : SB < SB := HSB.out.2.2 _ e.symm; omega)⟩)
              | fail)
          have HOE := Lib.hid own12
          have HRE := Lib.hid rb12
          have HAC2 : Hid (((acc ++ [(x : Int)]) ++ (q1 ++ [(m : Int)]).reverse) ++ (q' ++ [(c : Int)]) = q ++ [(c : Int)]) := by
            have := hac.out
            rw [HQR.out] at this
            unfold Hid
            simpa using this
          have t31 := T3.out.2.2.2
          go_wp2_with fail
          go_roundg q'.length
          case rel => exact ⟨b, _, q', rfl, HOE, HNX, HAC2, rfl, HRE⟩
          case measure => have h1 := hk.out; have h2 := HLN.out; omega
end
end

end Go.Proofs.YtbnipgajhpbolaaGreatDoor
