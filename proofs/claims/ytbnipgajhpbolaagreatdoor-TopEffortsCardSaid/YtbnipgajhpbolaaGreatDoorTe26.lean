/- queue's heap of entries: who comes first, and turned ones -/
import Derived.Test.YtbnipgajhpbolaaGreatDoorTe25
set_option linter.unusedVariables false
set_option linter.unusedSimpArgs false
namespace Go.Proofs.YtbnipgajhpbolaaGreatDoor

section
open Go.RowKit
/-- A row of pairs of numbers of one's own, of a type t. -/
def OwnP (t : TypeId) (w : World) (base : Nat) (v : Value) (es : List Ed) : Prop := w.ownsRow base t 2 v es.length (ecells es)
theorem ecells_set : ∀ (es : List Ed) (j : Nat) (a b : Int), ecells (es.set j (a, b)) = ((ecells es).set (j * 2) (.int .i64 a)).set (j * 2 + 1) (.int .i64 b)
  | [], j, a, b => by simp [ecells]
  | e :: es, 0, a, b => by simp [ecells]
  | e :: es, j + 1, a, b => by
    have := ecells_set es j a b
    rw [show (j + 1) * 2 = j * 2 + 2 from by omega]
    simp [ecells, this]
theorem ecells_take : ∀ (es : List Ed) (k : Nat), ecells (es.take k) = (ecells es).take (k * 2)
  | [], k => by simp [ecells]
  | e :: es, 0 => by simp [ecells]
  | e :: es, k + 1 => by
    have := ecells_take es k
    rw [show (k + 1) * 2 = k * 2 + 2 from by omega]
    simp [ecells, this]
section
variable {t : TypeId} {w w1 : World} {base g n c : Nat} {v : Value} {es : List Ed}
theorem OwnP.len (h : OwnP t w base v es) {A : Option Addr} (e : v = .slice A n c) : n = es.length := by
  rcases h.2 with ⟨rfl, h0⟩ | ⟨g', cap, cur, rfl, -⟩
  · injection e with e1 e2 e3; omega
  · injection e with e1 e2 e3; omega
theorem OwnP.shape (h : OwnP t w base v es) : ∃ A c, v = .slice A es.length c ∧ es.length ≤ c ∧ c ≤ maxLen := by
  rcases h.2 with ⟨rfl, h0⟩ | ⟨g', cap, cur, rfl, hb, hg, hle, hm, -⟩
  · exact ⟨none, 0, by rw [h0], by omega, by decide⟩
  · exact ⟨_, cap, rfl, hle, hm⟩
theorem OwnP.slice (h : OwnP t w base v es) (hn : 0 < es.length) : ∃ g c, v = .slice (some ⟨g, 0, none⟩) es.length c ∧ base ≤ g ∧ g < w.heap.size := by
  rcases h.2 with ⟨rfl, h0⟩ | ⟨g, cap, cur, rfl, hb, hg, -⟩
  · omega
  · exact ⟨g, cap, rfl, hb, blk_lt hg⟩
theorem OwnP.cellAt (h : OwnP t w base (.slice (some ⟨g, 0, none⟩) n c) es) {j : Nat} (hj : j < n) : w.cell? ⟨g, j * 2, none⟩ = some (.int .i64 (ge es j).1) ∧ w.cell? ⟨g, j * 2 + 1, none⟩ = some (.int .i64 (ge es j).2) := by
  obtain rfl := h.len rfl
  unfold OwnP at h
  rw [World.ownsRow.cellAt h (j * 2) (by omega), World.ownsRow.cellAt h (j * 2 + 1) (by omega)]
  exact ecells_at es j hj
theorem OwnP.frozAt (h : OwnP t w base (.slice (some ⟨g, 0, none⟩) n c) es) (j : Nat) : w.frozen? ⟨g, j, none⟩ = false := by
  obtain rfl := h.len rfl
  unfold OwnP at h
  exact World.ownsRow.frozenAt h j
theorem OwnP.put (h : OwnP t w base (.slice (some ⟨g, 0, none⟩) n c) es) (j : Nat) (a b : Int) : OwnP t ((w.setCell ⟨g, j * 2, none⟩ (.int .i64 a)).setCell ⟨g, j * 2 + 1, none⟩ (.int .i64 b)) base (.slice (some ⟨g, 0, none⟩) n c) (es.set j (a, b)) := by
  obtain rfl := h.len rfl
  unfold OwnP at *
  have h1 := (World.ownsRow.stored h (j * 2) (.int .i64 a)).1
  have h2 := (World.ownsRow.stored h1 (j * 2 + 1) (.int .i64 b)).1
  rw [ecells_set, List.length_set]
  exact h2
theorem OwnP.cut {p : Nat} (h : OwnP t w base (.slice (some ⟨g, 0, none⟩) n c) es) (hp : p ≤ n) : OwnP t w base (.slice (some ⟨g, 0, none⟩) p c) (es.take p) := by
  have hl := h.len rfl
  unfold OwnP at *
  rcases h.2 with ⟨e, -⟩ | ⟨g', cap, cur, e, hb, hg, hle, hm, hs, ht⟩
  · cases e
  · injection e with e1 e2 e3
    have hpl : (es.take p).length = p := by rw [List.length_take]; omega
    rw [hpl]
    refine ⟨by rw [ecells_length, hpl], .inr ⟨g', cap, cur, by rw [e1, e3], hb, hg, by omega, hm, hs, ?_⟩⟩
    rw [ecells_take, ← ht, List.take_take]
    congr 1
    omega
theorem OwnP.grown {row : Option Nat} (h : OwnP t w base v es) (g : w.grownBy w1 row) (hr : ∀ k, v.ownBlock = some k → some k ≠ row) : OwnP t w1 base v es :=
  World.ownsRow.kept h g (by
    cases e : v.ownBlock with
    | none => exact .inl rfl
    | some k => exact .inr (hr k e))
theorem OwnP.later (h : OwnP t w base v es) (b : Below w.heap.size w w1) : OwnP t w1 base v es :=
  h.grown ⟨b.os, b.tape, b.output, b.size, fun k hk _ => b.block k hk⟩ (row := none) fun k _ e => by cases e
end

theorem ge_at {es : List Ed} {j : Nat} (h : j < es.length) : ge es j = es[j] := by simp [ge, h]
theorem ge_set (es : List Ed) (i j : Nat) (x : Ed) : ge (es.set i x) j = if i = j ∧ i < es.length then x else ge es j := by
  unfold ge
  simp only [List.getD_eq_getElem?_getD, List.getElem?_set]
  by_cases e : i = j
  · subst e
    by_cases q : i < es.length
    · simp [q]
    · simp [q]
  · simp [e]
/-- Two turned. -/
def swapE (es : List Ed) (i j : Nat) : List Ed := (es.set i (ge es j)).set j (ge es i)
theorem swapE_perm {es : List Ed} {i j : Nat} (hi : i < es.length) (hj : j < es.length) : (swapE es i j).Perm es := by
  unfold swapE
  rw [ge_at hi, ge_at hj]
  exact List.set_set_perm hi hj
theorem swapE_length (es : List Ed) (i j : Nat) : (swapE es i j).length = es.length := by simp [swapE]

theorem hlen_any (A : Option Addr) (n c : Nat) (w : World) : Calls Tryz.prog 324 #[.slice A n c] w fun e w' => e = .returned (.int .i64 n) ∧ w = w' := by
  go_enter Tryz.func324, Tryz.ntmps324
  go_wp2_with fail
  go_ret
  exact ⟨rfl, rfl⟩

set_option maxHeartbeats 4000000 in
set_option maxRecDepth 100000 in
theorem hswap_any {base g n c : Nat} {es : List Ed} (w : World) (h : OwnP 132 w base (.slice (some ⟨g, 0, none⟩) n c) es) {i j : Nat} (hi : i < n) (hj : j < n) :
    Calls Tryz.prog 326 #[.slice (some ⟨g, 0, none⟩) n c, .int .i64 i, .int .i64 j] w fun e w' => OwnP 132 w' base (.slice (some ⟨g, 0, none⟩) n c) (swapE es i j) ∧ w.grownBy w' (some g) ∧ e = .returned (.tuple #[]) := by
  have hl := h.len rfl
  have ci := h.cellAt hi
  have cj := h.cellAt hj
  have fi := h.frozAt
  have o1 := h.put i (ge es j).1 (ge es j).2
  have ci0 := o1.cellAt hi
  have cj2 := o1.cellAt hj
  have f2 := o1.frozAt
  have ne01 : ∀ (W : World) (k : Nat) (x : Value), (W.setCell ⟨g, k * 2, none⟩ x).cell? ⟨g, k * 2 + 1, none⟩ = W.cell? ⟨g, k * 2 + 1, none⟩ := fun W k x => World.cell?_setCell_other _ _ _ _ (by intro e; injection e with _ e; omega)
  have HO2 : Hid (OwnP 132 ((((w.setCell ⟨g, i * 2, none⟩ (.int .i64 (ge es j).1)).setCell ⟨g, i * 2 + 1, none⟩ (.int .i64 (ge es j).2)).setCell ⟨g, j * 2, none⟩ (.int .i64 (ge es i).1)).setCell ⟨g, j * 2 + 1, none⟩ (.int .i64 (ge es i).2)) base (.slice (some ⟨g, 0, none⟩) n c) (swapE es i j)) := o1.put j (ge es i).1 (ge es i).2
  have HG2 : Hid (w.grownBy ((((w.setCell ⟨g, i * 2, none⟩ (.int .i64 (ge es j).1)).setCell ⟨g, i * 2 + 1, none⟩ (.int .i64 (ge es j).2)).setCell ⟨g, j * 2, none⟩ (.int .i64 (ge es i).1)).setCell ⟨g, j * 2 + 1, none⟩ (.int .i64 (ge es i).2)) (some g)) := (grown_set2 _ _ _ _ _ _).trans (grown_set2 _ _ _ _ _ _)
  have hai : (0 : Int) ≤ (i : Int) ∧ (i : Int) < (n : Int) := by omega
  have hzi : (0 : Int) ≤ (j : Int) ∧ (j : Int) < (n : Int) := by omega
  obtain ⟨ci1, ci2⟩ := ci
  obtain ⟨cj1, cj2a⟩ := cj
  have ci3 := (ne01 w i (.int .i64 (ge es j).1)).trans ci2
  have fi0 := fi (i * 2)
  have fi1 := fi (i * 2 + 1)
  have fi2 : (w.setCell ⟨g, i * 2, none⟩ (.int .i64 (ge es j).1)).frozen? ⟨g, i * 2 + 1, none⟩ = false := by simpa using fi1
  obtain ⟨cj3, cj4⟩ := cj2
  have cj5 := (ne01 ((w.setCell ⟨g, i * 2, none⟩ (.int .i64 (ge es j).1)).setCell ⟨g, i * 2 + 1, none⟩ (.int .i64 (ge es j).2)) j (.int .i64 (ge es i).1)).trans cj4
  have fj0 := f2 (j * 2)
  have fj1 := f2 (j * 2 + 1)
  generalize ge (es.set i ((ge es j).1, (ge es j).2)) j = z at *
  generalize ge es i = x at *
  generalize ge es j = y at *
  clear h o1 f2 fi ne01 ci0 hl
  go_enter Tryz.func326, Tryz.ntmps326
  go_wp2_with fail
  have ci1d := cell_later (RW.refl w).drew ci1
  have ci2d := cell_later (RW.refl w).drew ci2
  have cj1d := cell_later (RW.refl w).drew cj1
  have cj2d := cell_later (RW.refl w).drew cj2a
  refine wp_region_held_drew (S := fun _ => True) (by kernel_rfl) trivial (fun hHeld => ?_)
  refine wpAnyH_take (i := 0) (oi := ?oiz501x0) (v := ?vz501x0) ?hiz501x0 (by kernel_rfl) (by kernel_rfl) (by kernel_rfl) ?hQz501x0 ?hyz501x0 (by assumption) ?restz501x0
  case hiz501x0 => first | (simp only [List.getElem?_toArray, List.getElem?_cons_zero, List.getElem?_cons_succ]; rfl) | rfl
  case hQz501x0 => exact fun _ _ _ h => h
  case hyz501x0 => (refine Or.inl ⟨by rfl, ?_⟩; intro w hSw; (try dsimp only at hSw); go_simp; (try with_reducible rfl))
  simp only [Act.put, List.setIfInBounds_toArray, List.set_cons_zero, List.set_cons_succ]
  refine wpAnyH_take (i := 1) (oi := ?oiz502x1) (v := ?vz502x1) ?hiz502x1 (by kernel_rfl) (by kernel_rfl) (by kernel_rfl) ?hQz502x1 ?hyz502x1 (by assumption) ?restz502x1
  case hiz502x1 => first | (simp only [List.getElem?_toArray, List.getElem?_cons_zero, List.getElem?_cons_succ]; rfl) | rfl
  case hQz502x1 => exact fun _ _ _ h => h
  case hyz502x1 => (refine Or.inl ⟨by rfl, ?_⟩; intro w hSw; (try dsimp only at hSw); go_simp; (try with_reducible rfl))
  simp only [Act.put, List.setIfInBounds_toArray, List.set_cons_zero, List.set_cons_succ]
  refine wpAnyH_take (i := 2) (oi := ?oiz503x2) (v := ?vz503x2) ?hiz503x2 (by kernel_rfl) (by kernel_rfl) (by kernel_rfl) ?hQz503x2 ?hyz503x2 (by assumption) ?restz503x2
  case hiz503x2 => first | (simp only [List.getElem?_toArray, List.getElem?_cons_zero, List.getElem?_cons_succ]; rfl) | rfl
  case hQz503x2 => exact fun _ _ _ h => h
  case hyz503x2 => (refine Or.inl ⟨by rfl, ?_⟩; intro w hSw; (try dsimp only at hSw); go_simp; (try with_reducible rfl))
  simp only [Act.put, List.setIfInBounds_toArray, List.set_cons_zero, List.set_cons_succ]
  refine wpAnyH_take (i := 3) (oi := ?oiz504x3) (v := ?vz504x3) ?hiz504x3 (by kernel_rfl) (by kernel_rfl) (by kernel_rfl) ?hQz504x3 ?hyz504x3 (by assumption) ?restz504x3
  case hiz504x3 => first | (simp only [List.getElem?_toArray, List.getElem?_cons_zero, List.getElem?_cons_succ]; rfl) | rfl
  case hQz504x3 => exact fun _ _ _ h => h
  case hyz504x3 => (refine Or.inl ⟨by rfl, ?_⟩; intro w hSw; (try dsimp only at hSw); go_simp; (try with_reducible rfl))
  simp only [Act.put, List.setIfInBounds_toArray, List.set_cons_zero, List.set_cons_succ]
  refine wpAnyH_take (i := 4) (oi := ?oiz505x4) (v := ?vz505x4) ?hiz505x4 (by kernel_rfl) (by kernel_rfl) (by kernel_rfl) ?hQz505x4 ?hyz505x4 (by assumption) ?restz505x4
  case hiz505x4 => first | (simp only [List.getElem?_toArray, List.getElem?_cons_zero, List.getElem?_cons_succ]; rfl) | rfl
  case hQz505x4 => exact fun _ _ _ h => h
  case hyz505x4 => (refine Or.inl ⟨by rfl, ?_⟩; intro w hSw; (try dsimp only at hSw); go_simp; (try with_reducible rfl))
  simp only [Act.put, List.setIfInBounds_toArray, List.set_cons_zero, List.set_cons_succ]
  refine wpAnyH_take (i := 5) (oi := ?oiz506x5) (v := ?vz506x5) ?hiz506x5 (by kernel_rfl) (by kernel_rfl) (by kernel_rfl) ?hQz506x5 ?hyz506x5 (by assumption) ?restz506x5
  case hiz506x5 => first | (simp only [List.getElem?_toArray, List.getElem?_cons_zero, List.getElem?_cons_succ]; rfl) | rfl
  case hQz506x5 => exact fun _ _ _ h => h
  case hyz506x5 => (refine Or.inl ⟨by rfl, ?_⟩; intro w hSw; (try dsimp only at hSw); go_simp; (try with_reducible rfl))
  simp only [Act.put, List.setIfInBounds_toArray, List.set_cons_zero, List.set_cons_succ]
  refine wpAnyH_take (i := 6) (oi := ?oiz507x6) (v := ?vz507x6) ?hiz507x6 (by kernel_rfl) (by kernel_rfl) (by kernel_rfl) ?hQz507x6 ?hyz507x6 (by assumption) ?restz507x6
  case hiz507x6 => first | (simp only [List.getElem?_toArray, List.getElem?_cons_zero, List.getElem?_cons_succ]; rfl) | rfl
  case hQz507x6 => exact fun _ _ _ h => h
  case hyz507x6 => (refine Or.inl ⟨by rfl, ?_⟩; intro w hSw; (try dsimp only at hSw); go_simp; (try with_reducible rfl))
  simp only [Act.put, List.setIfInBounds_toArray, List.set_cons_zero, List.set_cons_succ]
  refine wpAnyH_take (i := 8) (oi := ?oiz508x8) (v := ?vz508x8) ?hiz508x8 (by kernel_rfl) (by kernel_rfl) (by kernel_rfl) ?hQz508x8 ?hyz508x8 (by assumption) ?restz508x8
  case hiz508x8 => first | (simp only [List.getElem?_toArray, List.getElem?_cons_zero, List.getElem?_cons_succ]; rfl) | rfl
  case hQz508x8 => exact fun _ _ _ h => h
  case hyz508x8 => (refine Or.inl ⟨by rfl, ?_⟩; intro w hSw; (try dsimp only at hSw); go_simp; (try with_reducible rfl))
  simp only [Act.put, List.setIfInBounds_toArray, List.set_cons_zero, List.set_cons_succ]
  refine wpAnyH_take (i := 9) (oi := ?oiz509x9) (v := ?vz509x9) ?hiz509x9 (by kernel_rfl) (by kernel_rfl) (by kernel_rfl) ?hQz509x9 ?hyz509x9 (by assumption) ?restz509x9
  case hiz509x9 => first | (simp only [List.getElem?_toArray, List.getElem?_cons_zero, List.getElem?_cons_succ]; rfl) | rfl
  case hQz509x9 => exact fun _ _ _ h => h
  case hyz509x9 => (refine Or.inl ⟨by rfl, ?_⟩; intro w hSw; (try dsimp only at hSw); go_simp; (try with_reducible rfl))
  simp only [Act.put, List.setIfInBounds_toArray, List.set_cons_zero, List.set_cons_succ]
  refine wpAnyH_take (i := 10) (oi := ?oiz510x10) (v := ?vz510x10) ?hiz510x10 (by kernel_rfl) (by kernel_rfl) (by kernel_rfl) ?hQz510x10 ?hyz510x10 (by assumption) ?restz510x10
  case hiz510x10 => first | (simp only [List.getElem?_toArray, List.getElem?_cons_zero, List.getElem?_cons_succ]; rfl) | rfl
  case hQz510x10 => exact fun _ _ _ h => h
  case hyz510x10 => (refine Or.inl ⟨by rfl, ?_⟩; intro w hSw; (try dsimp only at hSw); go_simp; (try with_reducible rfl))
  simp only [Act.put, List.setIfInBounds_toArray, List.set_cons_zero, List.set_cons_succ]
  refine wpAnyH_ready (rs := [7, 11]) (by kernel_rfl) (by simp) ?_
  refine AllReadyH.cons rfl (fun K hK => ?_) (AllReadyH.cons rfl (fun K hK => ?_) AllReadyH.nil)
  all_goals go_simp
  · refine hK.out _ _ trivial (fun hHeld => ?_)
    clear hK K
    (try simp only [Act.put, List.setIfInBounds_toArray, List.set_cons_zero, List.set_cons_succ])
    refine wpAnyH_ready (rs := [11]) (by kernel_rfl) (by simp) ?_
    refine AllReadyH.cons rfl (fun K hK => ?_) AllReadyH.nil
    go_simp
    refine hK.out _ _ trivial (fun hHeld => ?_)
    clear hK K
    (try simp only [Act.put, List.setIfInBounds_toArray, List.set_cons_zero, List.set_cons_succ])
    refine wpAnyH_take (i := 12) (oi := ?oiz511x12) (v := ?vz511x12) ?hiz511x12 (by kernel_rfl) (by kernel_rfl) (by kernel_rfl) ?hQz511x12 ?hyz511x12 (by assumption) ?restz511x12
    case hiz511x12 => first | (simp only [List.getElem?_toArray, List.getElem?_cons_zero, List.getElem?_cons_succ]; rfl) | rfl
    case hQz511x12 => exact fun _ _ _ h => h
    case hyz511x12 => (refine Or.inl ⟨by rfl, ?_⟩; intro w hSw; (try dsimp only at hSw); go_simp; (try with_reducible rfl))
    simp only [Act.put, List.setIfInBounds_toArray, List.set_cons_zero, List.set_cons_succ]
    refine wpAnyH_ready (rs := [13]) (by kernel_rfl) (by simp) ?_
    refine AllReadyH.cons rfl (fun K hK => ?_) AllReadyH.nil
    go_simp
    refine hK.out _ _ trivial (fun hHeld => ?_)
    clear hK K
    (try simp only [Act.put, List.setIfInBounds_toArray, List.set_cons_zero, List.set_cons_succ])
    refine wpAnyH_take (i := 14) (oi := ?oiz512x14) (v := ?vz512x14) ?hiz512x14 (by kernel_rfl) (by kernel_rfl) (by kernel_rfl) ?hQz512x14 ?hyz512x14 (by assumption) ?restz512x14
    case hiz512x14 => first | (simp only [List.getElem?_toArray, List.getElem?_cons_zero, List.getElem?_cons_succ]; rfl) | rfl
    case hQz512x14 => exact fun _ _ _ h => h
    case hyz512x14 => (refine Or.inl ⟨by rfl, ?_⟩; intro w hSw; (try dsimp only at hSw); go_simp; (try with_reducible rfl))
    simp only [Act.put, List.setIfInBounds_toArray, List.set_cons_zero, List.set_cons_succ]
    refine wpAnyH_ready (rs := [15]) (by kernel_rfl) (by simp) ?_
    refine AllReadyH.cons rfl (fun K hK => ?_) AllReadyH.nil
    go_simp
    refine hK.out _ _ trivial (fun hHeld => ?_)
    clear hK K
    (try simp only [Act.put, List.setIfInBounds_toArray, List.set_cons_zero, List.set_cons_succ])
    refine wpAnyH_done (by kernel_rfl) ?_ _
    go_wp2_with fail
    go_end0
    exact ⟨HO2.out.later (RW.refl _).drew, ⟨HG2.out.os, HG2.out.tape, HG2.out.output, HG2.out.size, HG2.out.block⟩, rfl⟩
  · refine hK.out _ _ trivial (fun hHeld => ?_)
    clear hK K
    (try simp only [Act.put, List.setIfInBounds_toArray, List.set_cons_zero, List.set_cons_succ])
    refine wpAnyH_ready (rs := [7]) (by kernel_rfl) (by simp) ?_
    refine AllReadyH.cons rfl (fun K hK => ?_) AllReadyH.nil
    go_simp
    refine hK.out _ _ trivial (fun hHeld => ?_)
    clear hK K
    (try simp only [Act.put, List.setIfInBounds_toArray, List.set_cons_zero, List.set_cons_succ])
    refine wpAnyH_take (i := 12) (oi := ?oiz513x12) (v := ?vz513x12) ?hiz513x12 (by kernel_rfl) (by kernel_rfl) (by kernel_rfl) ?hQz513x12 ?hyz513x12 (by assumption) ?restz513x12
    case hiz513x12 => first | (simp only [List.getElem?_toArray, List.getElem?_cons_zero, List.getElem?_cons_succ]; rfl) | rfl
    case hQz513x12 => exact fun _ _ _ h => h
    case hyz513x12 => (refine Or.inl ⟨by rfl, ?_⟩; intro w hSw; (try dsimp only at hSw); go_simp; (try with_reducible rfl))
    simp only [Act.put, List.setIfInBounds_toArray, List.set_cons_zero, List.set_cons_succ]
    refine wpAnyH_ready (rs := [13]) (by kernel_rfl) (by simp) ?_
    refine AllReadyH.cons rfl (fun K hK => ?_) AllReadyH.nil
    go_simp
    refine hK.out _ _ trivial (fun hHeld => ?_)
    clear hK K
    (try simp only [Act.put, List.setIfInBounds_toArray, List.set_cons_zero, List.set_cons_succ])
    refine wpAnyH_take (i := 14) (oi := ?oiz514x14) (v := ?vz514x14) ?hiz514x14 (by kernel_rfl) (by kernel_rfl) (by kernel_rfl) ?hQz514x14 ?hyz514x14 (by assumption) ?restz514x14
    case hiz514x14 => first | (simp only [List.getElem?_toArray, List.getElem?_cons_zero, List.getElem?_cons_succ]; rfl) | rfl
    case hQz514x14 => exact fun _ _ _ h => h
    case hyz514x14 => (refine Or.inl ⟨by rfl, ?_⟩; intro w hSw; (try dsimp only at hSw); go_simp; (try with_reducible rfl))
    simp only [Act.put, List.setIfInBounds_toArray, List.set_cons_zero, List.set_cons_succ]
    refine wpAnyH_ready (rs := [15]) (by kernel_rfl) (by simp) ?_
    refine AllReadyH.cons rfl (fun K hK => ?_) AllReadyH.nil
    go_simp
    refine hK.out _ _ trivial (fun hHeld => ?_)
    clear hK K
    (try simp only [Act.put, List.setIfInBounds_toArray, List.set_cons_zero, List.set_cons_succ])
    refine wpAnyH_done (by kernel_rfl) ?_ _
    go_wp2_with fail
    go_end0
    exact ⟨HO2.out.later (RW.refl _).drew, ⟨HG2.out.os, HG2.out.tape, HG2.out.output, HG2.out.size, HG2.out.block⟩, rfl⟩
end

end Go.Proofs.YtbnipgajhpbolaaGreatDoor
