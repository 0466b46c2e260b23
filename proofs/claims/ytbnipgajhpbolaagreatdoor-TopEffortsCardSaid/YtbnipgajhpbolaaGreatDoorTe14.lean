/- The walks of forest.first and forest.Base -/
import Derived.Test.YtbnipgajhpbolaaGreatDoorTe13
import Derived.Deep.RegionHeld3
import Derived.Deep.LoopGhost
set_option linter.unusedVariables false
set_option linter.unusedSimpArgs false
namespace Go.Proofs.YtbnipgajhpbolaaGreatDoor

section
open Go.RowKit
/-- Sets, each with its first: d falls on the way up. -/
def Uf (N : Nat) (up : Nat → Int) (C : Nat → Nat) (d : Nat → Nat) : Prop :=
  ∀ z, z < N → C z < N ∧ C (C z) = C z ∧ ((up z = z ∧ C z = z) ∨ ∃ y : Nat, y < N ∧ up z = (y : Int) ∧ y ≠ z ∧ d y < d z ∧ C y = C z ∧ C z ≠ z)
section
variable {N : Nat} {up : Nat → Int} {C : Nat → Nat} {d : Nat → Nat}
theorem Uf.next (h : Uf N up C d) {z y : Nat} (hz : z < N) (e : up z = (y : Int)) (hne : y ≠ z) : y < N ∧ d y < d z ∧ C y = C z := by
  rcases (h z hz).2.2 with ⟨k, -⟩ | ⟨y', k1, k2, k3, k4, k5, k6⟩
  · omega
  · obtain rfl : y = y' := by omega
    exact ⟨k1, k4, k5⟩
theorem Uf.at (h : Uf N up C d) {z : Nat} (hz : z < N) : ∃ y : Nat, y < N ∧ up z = (y : Int) ∧ C y = C z ∧ d y ≤ d z := by
  rcases (h z hz).2.2 with ⟨k, -⟩ | ⟨y', k1, k2, k3, k4, k5, k6⟩
  · exact ⟨z, hz, k, rfl, Nat.le_refl _⟩
  · exact ⟨y', k1, k2, k5, by omega⟩
theorem Uf.root (h : Uf N up C d) {z : Nat} (hz : z < N) (e : up z = (z : Int)) : C z = z := by
  rcases (h z hz).2.2 with ⟨-, k⟩ | ⟨y', k1, k2, k3, k4, k5, k6⟩
  · exact k
  · omega
/-- A way up made shorter. -/
theorem Uf.short (h : Uf N up C d) {z y x : Nat} (hz : z < N) (hx : x < N) (hne : C z ≠ z) (e : C x = C z) (hd : d x < d z) : Uf N (upd up z (x : Int)) C d := fun a ha => by
  obtain ⟨h1, h2, h3⟩ := h a ha
  refine ⟨h1, h2, ?_⟩
  by_cases q : a = z
  · subst q
    rw [upd_eq]
    exact .inr ⟨x, hx, rfl, fun q => by subst q; omega, hd, e, hne⟩
  · rw [upd_ne _ _ q]
    exact h3
end

section
variable {base N F : Nat} {g : Nat → Nat} {nv mv : Value} {s : Fm} {C d : Nat → Nat}
set_option maxHeartbeats 4000000 in
set_option maxRecDepth 100000 in
theorem ffirst_any (w : World) (h : FW base N F g nv mv s w) (hu : Uf N s.up C d) {v : Nat} (hv : v < N) (hN : N ≤ 65536) :
    Calls Tryz.prog 79 #[.pointer (some ⟨F, 0, none⟩), .int .i64 v] w fun e w' => e = .returned (.int .i64 (C v)) ∧ ∃ up', FW base N F g nv mv { s with up := up' } w' ∧ Uf N up' C d ∧ Fr F g s.wv w s.wv w' := by
  have H0 : Hid (FW base N F g nv mv { s with up := s.up } w ∧ Uf N s.up C d ∧ Fr F g s.wv w s.wv w) := ⟨h, hu, Fr.refl _ _ _ _⟩
  clear h hu
  go_enter Tryz.func79, Tryz.ntmps79
  go_wp2_with fail
  go_loopw [1] (fun t wr => ∃ (x : Nat) (up' : Nat → Int), x < N ∧ t = .int .i64 x ∧ Hid (C x = C v) ∧ Hid (FW base N F g nv mv { s with up := up' } wr ∧ Uf N up' C d ∧ Fr F g s.wv w s.wv wr)) (fun t _ => d (intOf t).toNat)
  case atStart => exact ⟨v, s.up, hv, rfl, rfl, H0⟩
  case round =>
    obtain ⟨x, up', hx, rfl, hcx, hw⟩ := hrel
    obtain ⟨h1, h2, h3⟩ := hw.out
    have c10 := h1.h10
    obtain ⟨y, y1, y2, y3, y4⟩ := h2.at hx
    have cx := h1.up.at hx
    simp only [y2] at cx
    have hxi : (0 : Int) ≤ (x : Int) ∧ (x : Int) < (N : Int) := by omega
    by_cases q : y = x
    · subst q
      have hroot := h2.root hx y2
      have HE : Hid (C y = C v) := hcx
      rw [hroot] at HE
      have HW := hw
      clear h1 h2 h3 hw hcx
      go_wp2_with fail
      go_ret
      exact ⟨by rw [← HE.out]; rfl, up', HW.out⟩
    · obtain ⟨n1, n2, n3⟩ := h2.next hx y2 q
      have hyi : (0 : Int) ≤ (y : Int) ∧ (y : Int) < (N : Int) := by omega
      have qb : ((y : Int) == (x : Int)) = false := by simp; omega
      obtain ⟨z, z1, z2, z3, z4⟩ := h2.at n1
      have hzi : (0 : Int) ≤ (z : Int) ∧ (z : Int) < (N : Int) := by omega
      have hC : C x ≠ x := fun e => by
        rcases (h2 x hx).2.2 with ⟨k, -⟩ | ⟨y', -, k2, -, -, -, k6⟩
        · omega
        · exact k6 e
      have hU := h2.short (y := y) hx z1 hC (by omega) (by omega)
      have hd := h1.later (W' := wr.drew) ((Drawn.refl _).drew.below _)
      have cx2 := hd.up.at hx
      have cy2 := hd.up.at n1
      simp only [y2] at cx2
      simp only [z2] at cy2
      have f2 := hd.up.froz x
      have hp := hd.put_up x (z : Int)
      have hp10 := hp.h10
      have hd10 := hd.h10
      have hfr : Fr F g s.wv w s.wv (wr.drew.setCell ⟨g 10, x, none⟩ (.int .i64 (z : Int))) := (h3.trans (Fr.of ((Drawn.refl wr).drew.below _))).trans (Fr.set (.inr ⟨10, by decide, by decide, rfl⟩))
      have HP : Hid (FW base N F g nv mv { s with up := upd up' x (z : Int) } (wr.drew.setCell ⟨g 10, x, none⟩ (.int .i64 (z : Int))) ∧ Uf N (upd up' x (z : Int)) C d ∧ Fr F g s.wv w s.wv (wr.drew.setCell ⟨g 10, x, none⟩ (.int .i64 (z : Int)))) := ⟨hp, hU, hfr⟩
      have HC : Hid (C z = C v) := by have := hcx.out; unfold Hid; omega
      have HD : Hid (d z < d x) := by unfold Hid; omega
      have cz3 := hp.up.at hx
      simp only [upd_eq] at cz3
      clear h1 h2 h3 hw hcx hd hp hU hfr y2 z2
      go_wp2_with fail
      refine wp_region_held_drew (S := (fun w' => w'.cell? ⟨F, 10, none⟩ = some (.slice (some ⟨g 10, 0, none⟩) N N))) (by kernel_rfl) hd10 (fun hHeld => ?_)
      refine wpAnyH_take (i := 0) (oi := ?oiz901x0) (v := ?vz901x0) ?hiz901x0 (by kernel_rfl) (by kernel_rfl) (by kernel_rfl) ?hQz901x0 ?hyz901x0 (by assumption) ?restz901x0
      case hiz901x0 => first | (simp only [List.getElem?_toArray, List.getElem?_cons_zero, List.getElem?_cons_succ]; rfl) | rfl
      case hQz901x0 => exact fun _ _ _ h => h
      case hyz901x0 => (refine Or.inl ⟨by rfl, ?_⟩; intro w hSw; (try dsimp only at hSw); go_simp; (try with_reducible rfl))
      simp only [Act.put, List.setIfInBounds_toArray, List.set_cons_zero, List.set_cons_succ]
      refine wpAnyH_take (i := 1) (oi := ?oiz902x1) (v := ?vz902x1) ?hiz902x1 (by kernel_rfl) (by kernel_rfl) (by kernel_rfl) ?hQz902x1 ?hyz902x1 (by assumption) ?restz902x1
      case hiz902x1 => first | (simp only [List.getElem?_toArray, List.getElem?_cons_zero, List.getElem?_cons_succ]; rfl) | rfl
      case hQz902x1 => exact fun _ _ _ h => h
      case hyz902x1 => (refine Or.inl ⟨by rfl, ?_⟩; intro w hSw; (try dsimp only at hSw); go_simp; (try with_reducible rfl))
      simp only [Act.put, List.setIfInBounds_toArray, List.set_cons_zero, List.set_cons_succ]
      refine wpAnyH_take (i := 2) (oi := ?oiz903x2) (v := ?vz903x2) ?hiz903x2 (by kernel_rfl) (by kernel_rfl) (by kernel_rfl) ?hQz903x2 ?hyz903x2 (by assumption) ?restz903x2
      case hiz903x2 => first | (simp only [List.getElem?_toArray, List.getElem?_cons_zero, List.getElem?_cons_succ]; rfl) | rfl
      case hQz903x2 => exact fun _ _ _ h => h
      case hyz903x2 => (refine Or.inl ⟨by rfl, ?_⟩; intro w hSw; (try dsimp only at hSw); go_simp; (try with_reducible rfl))
      simp only [Act.put, List.setIfInBounds_toArray, List.set_cons_zero, List.set_cons_succ]
      refine wpAnyH_take (i := 3) (oi := ?oiz904x3) (v := ?vz904x3) ?hiz904x3 (by kernel_rfl) (by kernel_rfl) (by kernel_rfl) ?hQz904x3 ?hyz904x3 (by assumption) ?restz904x3
      case hiz904x3 => first | (simp only [List.getElem?_toArray, List.getElem?_cons_zero, List.getElem?_cons_succ]; rfl) | rfl
      case hQz904x3 => exact fun _ _ _ h => h
      case hyz904x3 => (refine Or.inl ⟨by rfl, ?_⟩; intro w hSw; (try dsimp only at hSw); go_simp; (try with_reducible rfl))
      simp only [Act.put, List.setIfInBounds_toArray, List.set_cons_zero, List.set_cons_succ]
      refine wpAnyH_take (i := 4) (oi := ?oiz905x4) (v := ?vz905x4) ?hiz905x4 (by kernel_rfl) (by kernel_rfl) (by kernel_rfl) ?hQz905x4 ?hyz905x4 (by assumption) ?restz905x4
      case hiz905x4 => first | (simp only [List.getElem?_toArray, List.getElem?_cons_zero, List.getElem?_cons_succ]; rfl) | rfl
      case hQz905x4 => exact fun _ _ _ h => h
      case hyz905x4 => (refine Or.inl ⟨by rfl, ?_⟩; intro w hSw; (try dsimp only at hSw); go_simp; (try with_reducible rfl))
      simp only [Act.put, List.setIfInBounds_toArray, List.set_cons_zero, List.set_cons_succ]
      refine wpAnyH_take (i := 5) (oi := ?oiz906x5) (v := ?vz906x5) ?hiz906x5 (by kernel_rfl) (by kernel_rfl) (by kernel_rfl) ?hQz906x5 ?hyz906x5 (by assumption) ?restz906x5
      case hiz906x5 => first | (simp only [List.getElem?_toArray, List.getElem?_cons_zero, List.getElem?_cons_succ]; rfl) | rfl
      case hQz906x5 => exact fun _ _ _ h => h
      case hyz906x5 => (refine Or.inl ⟨by rfl, ?_⟩; intro w hSw; (try dsimp only at hSw); go_simp; (try with_reducible rfl))
      simp only [Act.put, List.setIfInBounds_toArray, List.set_cons_zero, List.set_cons_succ]
      refine wpAnyH_take (i := 6) (oi := ?oiz907x6) (v := ?vz907x6) ?hiz907x6 (by kernel_rfl) (by kernel_rfl) (by kernel_rfl) ?hQz907x6 ?hyz907x6 (by assumption) ?restz907x6
      case hiz907x6 => first | (simp only [List.getElem?_toArray, List.getElem?_cons_zero, List.getElem?_cons_succ]; rfl) | rfl
      case hQz907x6 => exact fun _ _ _ h => h
      case hyz907x6 => (refine Or.inl ⟨by rfl, ?_⟩; intro w hSw; (try dsimp only at hSw); go_simp; (try with_reducible rfl))
      simp only [Act.put, List.setIfInBounds_toArray, List.set_cons_zero, List.set_cons_succ]
      refine wpAnyH_take (i := 7) (oi := ?oiz908x7) (v := ?vz908x7) ?hiz908x7 (by kernel_rfl) (by kernel_rfl) (by kernel_rfl) ?hQz908x7 ?hyz908x7 (by assumption) ?restz908x7
      case hiz908x7 => first | (simp only [List.getElem?_toArray, List.getElem?_cons_zero, List.getElem?_cons_succ]; rfl) | rfl
      case hQz908x7 => exact fun _ _ _ h => h
      case hyz908x7 => (refine Or.inl ⟨by rfl, ?_⟩; intro w hSw; (try dsimp only at hSw); go_simp; (try with_reducible rfl))
      simp only [Act.put, List.setIfInBounds_toArray, List.set_cons_zero, List.set_cons_succ]
      refine wpAnyH_take (i := 8) (oi := ?oiz909x8) (v := ?vz909x8) ?hiz909x8 (by kernel_rfl) (by kernel_rfl) (by kernel_rfl) ?hQz909x8 ?hyz909x8 (by assumption) ?restz909x8
      case hiz909x8 => first | (simp only [List.getElem?_toArray, List.getElem?_cons_zero, List.getElem?_cons_succ]; rfl) | rfl
      case hQz909x8 => exact fun _ _ _ h => h
      case hyz909x8 => (refine Or.inl ⟨by rfl, ?_⟩; intro w hSw; (try dsimp only at hSw); go_simp; (try with_reducible rfl))
      simp only [Act.put, List.setIfInBounds_toArray, List.set_cons_zero, List.set_cons_succ]
      refine wpAnyH_take (i := 9) (oi := ?oiz910x9) (v := ?vz910x9) ?hiz910x9 (by kernel_rfl) (by kernel_rfl) (by kernel_rfl) ?hQz910x9 ?hyz910x9 (by assumption) ?restz910x9
      case hiz910x9 => first | (simp only [List.getElem?_toArray, List.getElem?_cons_zero, List.getElem?_cons_succ]; rfl) | rfl
      case hQz910x9 => exact fun _ _ _ h => h
      case hyz910x9 => (refine Or.inl ⟨by rfl, ?_⟩; intro w hSw; (try dsimp only at hSw); go_simp; (try with_reducible rfl))
      simp only [Act.put, List.setIfInBounds_toArray, List.set_cons_zero, List.set_cons_succ]
      refine wpAnyH_take (i := 10) (oi := ?oiz911x10) (v := ?vz911x10) ?hiz911x10 (by kernel_rfl) (by kernel_rfl) (by kernel_rfl) ?hQz911x10 ?hyz911x10 (by assumption) ?restz911x10
      case hiz911x10 => first | (simp only [List.getElem?_toArray, List.getElem?_cons_zero, List.getElem?_cons_succ]; rfl) | rfl
      case hQz911x10 => exact fun _ _ _ h => h
      case hyz911x10 => (refine Or.inl ⟨by rfl, ?_⟩; intro w hSw; (try dsimp only at hSw); go_simp; (try with_reducible rfl))
      simp only [Act.put, List.setIfInBounds_toArray, List.set_cons_zero, List.set_cons_succ]
      refine wpAnyH_take (i := 11) (oi := ?oiz912x11) (v := ?vz912x11) ?hiz912x11 (by kernel_rfl) (by kernel_rfl) (by kernel_rfl) ?hQz912x11 ?hyz912x11 (by assumption) ?restz912x11
      case hiz912x11 => first | (simp only [List.getElem?_toArray, List.getElem?_cons_zero, List.getElem?_cons_succ]; rfl) | rfl
      case hQz912x11 => exact fun _ _ _ h => h
      case hyz912x11 => (refine Or.inl ⟨by rfl, ?_⟩; intro w hSw; (try dsimp only at hSw); go_simp; (try with_reducible rfl))
      simp only [Act.put, List.setIfInBounds_toArray, List.set_cons_zero, List.set_cons_succ]
      refine wpAnyH_take (i := 12) (oi := ?oiz913x12) (v := ?vz913x12) ?hiz913x12 (by kernel_rfl) (by kernel_rfl) (by kernel_rfl) ?hQz913x12 ?hyz913x12 (by assumption) ?restz913x12
      case hiz913x12 => first | (simp only [List.getElem?_toArray, List.getElem?_cons_zero, List.getElem?_cons_succ]; rfl) | rfl
      case hQz913x12 => exact fun _ _ _ h => h
      case hyz913x12 => (refine Or.inl ⟨by rfl, ?_⟩; intro w hSw; (try dsimp only at hSw); go_simp; (try with_reducible rfl))
      simp only [Act.put, List.setIfInBounds_toArray, List.set_cons_zero, List.set_cons_succ]
      refine wpAnyH_take (i := 13) (oi := ?oiz914x13) (v := ?vz914x13) ?hiz914x13 (by kernel_rfl) (by kernel_rfl) (by kernel_rfl) ?hQz914x13 ?hyz914x13 (by assumption) ?restz914x13
      case hiz914x13 => first | (simp only [List.getElem?_toArray, List.getElem?_cons_zero, List.getElem?_cons_succ]; rfl) | rfl
      case hQz914x13 => exact fun _ _ _ h => h
      case hyz914x13 => (refine Or.inl ⟨by rfl, ?_⟩; intro w hSw; (try dsimp only at hSw); go_simp; (try with_reducible rfl))
      simp only [Act.put, List.setIfInBounds_toArray, List.set_cons_zero, List.set_cons_succ]
      refine wpAnyH_take (i := 14) (oi := ?oiz915x14) (v := ?vz915x14) ?hiz915x14 (by kernel_rfl) (by kernel_rfl) (by kernel_rfl) ?hQz915x14 ?hyz915x14 (by assumption) ?restz915x14
      case hiz915x14 => first | (simp only [List.getElem?_toArray, List.getElem?_cons_zero, List.getElem?_cons_succ]; rfl) | rfl
      case hQz915x14 => exact fun _ _ _ h => h
      case hyz915x14 => (refine Or.inl ⟨by rfl, ?_⟩; intro w hSw; (try dsimp only at hSw); go_simp; (try with_reducible rfl))
      simp only [Act.put, List.setIfInBounds_toArray, List.set_cons_zero, List.set_cons_succ]
      refine wpAnyH_ready (rs := [15]) (by kernel_rfl) (by simp) ?_
      refine AllReadyH.cons rfl (fun K hK => ?_) AllReadyH.nil
      go_simp
      refine hK.out _ _ hd10 (fun hHeld => ?_)
      clear hK K
      (try simp only [Act.put, List.setIfInBounds_toArray, List.set_cons_zero, List.set_cons_succ])
      refine wpAnyH_take (i := 16) (oi := ?oiz916x16) (v := ?vz916x16) ?hiz916x16 (by kernel_rfl) (by kernel_rfl) (by kernel_rfl) ?hQz916x16 ?hyz916x16 (by assumption) ?restz916x16
      case hiz916x16 => first | (simp only [List.getElem?_toArray, List.getElem?_cons_zero, List.getElem?_cons_succ]; rfl) | rfl
      case hQz916x16 => exact fun _ _ _ h => h
      case hyz916x16 => (refine Or.inl ⟨by rfl, ?_⟩; intro w hSw; (try dsimp only at hSw); go_simp; (try with_reducible rfl))
      simp only [Act.put, List.setIfInBounds_toArray, List.set_cons_zero, List.set_cons_succ]
      refine wpAnyH_ready (rs := [17]) (by kernel_rfl) (by simp) ?_
      refine AllReadyH.cons rfl (fun K hK => ?_) AllReadyH.nil
      go_simp
      refine hK.out _ _ hd10 (fun hHeld => ?_)
      clear hK K
      (try simp only [Act.put, List.setIfInBounds_toArray, List.set_cons_zero, List.set_cons_succ])
      refine wpAnyH_take (i := 18) (oi := ?oiz917x18) (v := ?vz917x18) ?hiz917x18 (by kernel_rfl) (by kernel_rfl) (by kernel_rfl) ?hQz917x18 ?hyz917x18 (by assumption) ?restz917x18
      case hiz917x18 => first | (simp only [List.getElem?_toArray, List.getElem?_cons_zero, List.getElem?_cons_succ]; rfl) | rfl
      case hQz917x18 => exact fun _ _ _ h => h
      case hyz917x18 => (refine Or.inl ⟨by rfl, ?_⟩; intro w hSw; (try dsimp only at hSw); go_simp; (try with_reducible rfl))
      simp only [Act.put, List.setIfInBounds_toArray, List.set_cons_zero, List.set_cons_succ]
      refine wpAnyH_ready (rs := [19]) (by kernel_rfl) (by simp) ?_
      refine AllReadyH.cons rfl (fun K hK => ?_) AllReadyH.nil
      go_simp
      refine hK.out _ _ hp10 (fun hHeld => ?_)
      clear hK K
      (try simp only [Act.put, List.setIfInBounds_toArray, List.set_cons_zero, List.set_cons_succ])
      refine wpAnyH_done (by kernel_rfl) ?_ _
      go_wp2_with fail
      go_roundw
      case rel => exact ⟨z, _, z1, rfl, HC, HP⟩
      case measure => have := HD.out; simpa [intOf] using this

set_option maxHeartbeats 4000000 in
set_option maxRecDepth 100000 in
theorem fbase_any (w : World) (h : FW base N F g nv mv s w) (hu : Uf N s.up C d) {v b : Nat} (hv : v < N) (hN : N ≤ 65536) (hb : s.ba (C v) = (b : Int)) :
    Calls Tryz.prog 60 #[.pointer (some ⟨F, 0, none⟩), .int .i64 v] w fun e w' => e = .returned (.int .i64 b) ∧ ∃ up', FW base N F g nv mv { s with up := up' } w' ∧ Uf N up' C d ∧ Fr F g s.wv w s.wv w' := by
  have hd := h.later (W' := w.drew) ((Drawn.refl _).drew.below _)
  have hfd : Fr F g s.wv w s.wv w.drew := Fr.of ((Drawn.refl w).drew.below _)
  have hcl := (hu v hv).1
  have hci : (0 : Int) ≤ ((C v : Nat) : Int) ∧ ((C v : Nat) : Int) < (N : Int) := by omega
  have HW : Hid (FW base N F g nv mv s w.drew ∧ Fr F g s.wv w s.wv w.drew) := ⟨hd, hfd⟩
  have HU := Lib.hid hu
  have hd11 := hd.h11
  have cb0 := hd.ba.at hcl
  simp only [hb] at cb0
  clear h hd hfd hu
  go_enter Tryz.func60, Tryz.ntmps60
  go_wp2_with fail
  go_region_held3 (fun w' => w'.cell? ⟨F, 11, none⟩ = some (.slice (some ⟨g 11, 0, none⟩) N N) ∧ w'.cell? ⟨g 11, C v, none⟩ = some (.int .i64 (b : Int)))
    (first | assumption | exact ⟨hd11, cb0⟩ | exact ⟨h9.h11, cb9⟩ | fail)
    (first
      | (go_at_call 79; refine (ffirst_any w.drew HW.out.1 HU.out hv hN).mono ?_; rintro e w9 ⟨rfl, up9, h9, hu9, hf9⟩; have cb9 := h9.ba.at hcl; simp only [hb] at cb9)
      | fail)
  have HF := Lib.hid (HW.out.2.trans hf9)
  have H9 := Lib.hid (And.intro h9 hu9)
  clear hf9 h9 hu9 cb9
  go_wp2_with fail
  go_ret
  exact ⟨rfl, up9, H9.out.1, H9.out.2, HF.out⟩

/-- Is a vertex's tree gone? -/
def Fm.goneB (s : Fm) (v : Nat) : Bool := !(s.rt v == -1) && s.gn (s.rt v).toNat
set_option maxHeartbeats 4000000 in
set_option maxRecDepth 100000 in
theorem fgone_any (w : World) (h : FW base N F g nv mv s w) {v : Nat} (hv : v < N) (hr : s.rt v = -1 ∨ ∃ r : Nat, r < N ∧ s.rt v = r) :
    Calls Tryz.prog 80 #[.pointer (some ⟨F, 0, none⟩), .int .i64 v] w fun e w' => e = .returned (.bool (s.goneB v)) ∧ Below w.heap.size w w' := by
  have h7 := h.h7
  have h9 := h.h9
  have cr := h.rt.at hv
  have hvi : (0 : Int) ≤ (v : Int) ∧ (v : Int) < (N : Int) := by omega
  rcases hr with hr | ⟨r, hrN, hr⟩
  · simp only [hr] at cr
    have HE : Hid (s.goneB v = false) := by unfold Hid Fm.goneB; rw [hr]; rfl
    clear h
    go_enter Tryz.func80, Tryz.ntmps80
    go_wp2_with fail
    go_region
    go_wp2_with fail
    go_ret
    exact ⟨by rw [HE.out]; rfl, RW.drew (RW.refl w)⟩
  · simp only [hr] at cr
    have HE : Hid (s.goneB v = s.gn r) := by
      unfold Hid Fm.goneB
      rw [hr, Int.toNat_natCast]
      have : ((r : Int) == -1) = false := by simp
      rw [this]; rfl
    have hne : ((r : Int) == -1) = false := by simp
    have hne2 : ((r : Int) != -1) = true := by rw [bne, hne]; rfl
    have cg := h.gn.at hrN
    have hri : (0 : Int) ≤ (r : Int) ∧ (r : Int) < (N : Int) := by omega
    generalize s.gn r = bb at *
    clear h
    go_enter Tryz.func80, Tryz.ntmps80
    go_wp2_with fail
    go_region
    go_wp2_with fail
    go_ret
    exact ⟨by rw [HE.out]; rfl, RW.drew (RW.refl w)⟩

set_option maxHeartbeats 4000000 in
set_option maxRecDepth 100000 in
theorem feven_any (w : World) (h : FW base N F g nv mv s w) {v : Nat} (hv : v < N) :
    Calls Tryz.prog 85 #[.pointer (some ⟨F, 0, none⟩), .int .i64 v] w fun e w' => e = .returned (.int .i64 (s.ev v)) ∧ w = w' := by
  have h4 := h.h4
  have ce := h.ev.at hv
  have hvi : (0 : Int) ≤ (v : Int) ∧ (v : Int) < (N : Int) := by omega
  clear h
  generalize s.ev v = x at *
  go_enter Tryz.func85, Tryz.ntmps85
  go_wp2_with fail
  go_ret
  exact ⟨rfl, rfl⟩

/-- The matching, as the forest reads it: no block of the forest's. -/
def MR (base N : Nat) (mv : Value) (mt : Nat → Int) (W : World) : Prop := ∃ (A : Option Addr) (mc : Nat), mv = .slice A N mc ∧ (0 < N → ∃ mb mo : Nat, A = some ⟨mb, mo, none⟩ ∧ mb < base ∧ ∀ v, v < N → W.cell? ⟨mb, mo + v, none⟩ = some (.int .i64 (mt v)))
theorem MR.open {mt : Nat → Int} {W : World} (h : MR base N mv mt W) (hN : 0 < N) : ∃ (mb mo mc : Nat), mv = .slice (some ⟨mb, mo, none⟩) N mc ∧ mb < base ∧ ∀ v, v < N → W.cell? ⟨mb, mo + v, none⟩ = some (.int .i64 (mt v)) := by
  obtain ⟨A, mc, e, k⟩ := h
  obtain ⟨mb, mo, rfl, k1, k2⟩ := k hN
  exact ⟨mb, mo, mc, e, k1, k2⟩
theorem MR.below {mt : Nat → Int} {W W' : World} (h : MR base N mv mt W) (b : Below base W W') : MR base N mv mt W' := by
  obtain ⟨A, mc, e, k⟩ := h
  refine ⟨A, mc, e, fun hN => ?_⟩
  obtain ⟨mb, mo, e2, h1, h2⟩ := k hN
  exact ⟨mb, mo, e2, h1, fun v hv => by rw [b.cell (p := ⟨mb, mo + v, none⟩) h1]; exact h2 v hv⟩

set_option maxHeartbeats 4000000 in
set_option maxRecDepth 100000 in
theorem fabove_none {mt : Nat → Int} (w : World) (h : FW base N F g nv mv s w) (hm : MR base N mv mt w) {x : Nat} (hx : x < N) (e0 : mt x = -1) :
    Calls Tryz.prog 114 #[.pointer (some ⟨F, 0, none⟩), .int .i64 x] w fun e w' => e = .returned (.int .i64 (-1)) ∧ w = w' := by
  obtain ⟨mb, mo, mc, rfl, m1, m2⟩ := hm.open (by omega)
  have h1 := h.h1
  have cm := m2 x hx
  rw [e0] at cm
  have hvi : (0 : Int) ≤ (x : Int) ∧ (x : Int) < (N : Int) := by omega
  clear h m2
  go_enter Tryz.func114, Tryz.ntmps114
  go_wp2_with fail
  go_ret
  exact ⟨rfl, rfl⟩

set_option maxHeartbeats 4000000 in
set_option maxRecDepth 100000 in
theorem fabove_any {mt : Nat → Int} (w : World) (h : FW base N F g nv mv s w) (hbs : base ≤ w.heap.size) (hm : MR base N mv mt w) (hu : Uf N s.up C d) {x m p b : Nat} (hx : x < N) (hmN : m < N) (hpN : p < N) (e1 : mt x = (m : Int)) (e2 : s.pd m = (p : Int)) (hN : N ≤ 65536) (hb : s.ba (C p) = (b : Int)) :
    Calls Tryz.prog 114 #[.pointer (some ⟨F, 0, none⟩), .int .i64 x] w fun e w' => e = .returned (.int .i64 b) ∧ ∃ up', FW base N F g nv mv { s with up := up' } w' ∧ Uf N up' C d ∧ Fr F g s.wv w s.wv w' := by
  obtain ⟨mb, mo, mc, rfl, m1, m2⟩ := hm.open (by omega)
  have hd := h.later (W' := w.drew) ((Drawn.refl _).drew.below _)
  have hfd : Fr F g s.wv w s.wv w.drew := Fr.of ((Drawn.refl w).drew.below _)
  have h1 := h.h1
  have cm := m2 x hx
  have c1 := hd.h1
  have c6 := hd.h6
  have cp := hd.pd.at hmN
  have cmd : w.drew.cell? ⟨mb, mo + x, none⟩ = some (.int .i64 (mt x)) := cell_later (RW.refl w).drew cm
  simp only [e2] at cp
  rw [e1] at cm cmd
  have hvi : (0 : Int) ≤ (x : Int) ∧ (x : Int) < (N : Int) := by omega
  have hmi : (0 : Int) ≤ (m : Int) ∧ (m : Int) < (N : Int) := by omega
  have hpi : (0 : Int) ≤ (p : Int) ∧ (p : Int) < (N : Int) := by omega
  have hne : ((m : Int) == -1) = false := by simp
  have HW : Hid (FW base N F g nv (.slice (some ⟨mb, mo, none⟩) N mc) s w.drew ∧ Fr F g s.wv w s.wv w.drew) := ⟨hd, hfd⟩
  have HU := Lib.hid hu
  clear h hd hfd hu m2
  go_enter Tryz.func114, Tryz.ntmps114
  go_wp2_with fail
  have HSS : Hid (w.drew.cell? ⟨F, 1, none⟩ = some (.slice (some ⟨mb, mo, none⟩) N mc) ∧ w.drew.cell? ⟨F, 6, none⟩ = some (.slice (some ⟨g 6, 0, none⟩) N N) ∧ w.drew.cell? ⟨mb, mo + x, none⟩ = some (.int .i64 m) ∧ w.drew.cell? ⟨g 6, m, none⟩ = some (.int .i64 p)) := ⟨c1, c6, cmd, cp⟩
  clear c1 c6 cmd cp
  go_region_held3 (fun w' => w'.cell? ⟨F, 1, none⟩ = some (.slice (some ⟨mb, mo, none⟩) N mc) ∧ w'.cell? ⟨F, 6, none⟩ = some (.slice (some ⟨g 6, 0, none⟩) N N) ∧ w'.cell? ⟨mb, mo + x, none⟩ = some (.int .i64 m) ∧ w'.cell? ⟨g 6, m, none⟩ = some (.int .i64 p))
    (first | assumption | exact HSS.out | (refine ⟨h9.h1, h9.h6, ?_, ?_⟩; (exact ((hf9.below HW.out.1 hbs).cell (p := ⟨mb, mo + x, none⟩) m1).trans HSS.out.2.2.1); (exact (h9.pd.at hmN).trans (by simp only [e2]))) | fail)
    (first
      | (go_at_call 60; refine (fbase_any w.drew HW.out.1 HU.out hpN hN hb).mono ?_; rintro e w9 ⟨rfl, up9, h9, hu9, hf9⟩)
      | fail)
  have HF := Lib.hid (HW.out.2.trans hf9)
  have H9 := Lib.hid (And.intro h9 hu9)
  clear hf9 h9 hu9
  go_wp2_with fail
  go_ret
  exact ⟨rfl, up9, H9.out.1, H9.out.2, HF.out⟩
end
end

end Go.Proofs.YtbnipgajhpbolaaGreatDoor
