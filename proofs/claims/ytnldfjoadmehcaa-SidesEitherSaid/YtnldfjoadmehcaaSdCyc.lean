/- The walks of both IsCycle. -/
import Derived.Test.YtnldfjoadmehcaaSdPure
import Derived.Test.YtnldfjoadmehcaaMRight
import Derived.Maps.Own
import Derived.Maps.OwnSet
import Derived.Maps.Views
import Derived.Carry
import Derived.Test.YtnldfjoadmehcaaIndex
set_option linter.unusedVariables false
set_option linter.unusedSimpArgs false
namespace Go.Proofs.Ytnldfjoadmehcaa
open Go.RowKit

/- The walk of garlandref04.IsCycle. -/
theorem isCyc_noG {N : Int} {es : List Ed} {l : List Int} (h : rightB N es = false) : isCycB N es l = false := by unfold isCycB; rw [h]; rfl
theorem isCyc_short {N : Int} {es : List Ed} {l : List Int} (h : ¬ 3 ≤ l.length) : isCycB N es l = false := by unfold isCycB; simp [h]
theorem isCyc_to {N : Int} {es : List Ed} {l : List Int} {n : Nat} (hr : rightB N es = true) (hl : l.length = n) (h : 3 ≤ n) : isCycB N es l = cycTo N es l n := by unfold isCycB; rw [hr, hl]; simp [h]
theorem take_self_gi {l : List Int} {n : Nat} (h : l.length = n) : l.take n = l := List.take_of_length_le (by omega)

set_option maxHeartbeats 8000000 in
set_option maxRecDepth 100000 in
theorem riscyc_any {A B : Option Addr} {n c m d : Nat} {es : List Ed} {l : List Int} (N : Int) (w : World) (h : ReadE w A n es) (hl : ReadI w B m l) (hmd : m ≤ d) :
    Calls Try.prog 62 #[.agg #[.int .i64 N, .slice A n c], .slice B m d] w fun e w' => e = .returned (.bool (isCycB N es l)) ∧ Below w.heap.size w w' := by
  have hb1 := bel_alloc w (gcells N A n c)
  have hr := right_any (c := c) N (w.alloc (gcells N A n c)) (h.below hb1)
  have HB1 := Lib.hid hb1
  have HX := Lib.hid (boxg w N A n c)
  have HE := Lib.hid h
  have HL := Lib.hid hl
  have HM := Lib.hid hl.1
  have hm9 := hl.2.1
  clear hb1 h hl
  go_enter Try.func62, Try.ntmps62
  obtain ⟨x0, x1⟩ := HX.out
  go_wp2_with fail
  refine hr.mono ?_
  rintro e w2 ⟨rfl, hb2⟩
  have HB2 := Lib.hid (bel_trans HB1.out hb2)
  have HX2 := Lib.hid (later2 hb2 HX.out)
  clear hb2 hr x0 x1
  cases hR : rightB N es
  · have HN : Hid (isCycB N es l = false) := isCyc_noG hR
    clear hR
    go_wp2_with fail
    go_ret
    exact ⟨by rw [HN.out]; rfl, HB2.out⟩
  · have HRB := Lib.hid hR
    by_cases h3 : m < 3
    · have HN : Hid (isCycB N es l = false) := isCyc_short (by have := HM.out; omega)
      have d3 : decide ((m : Int) < 3) = true := decide_eq_true (by omega)
      clear hR
      go_wp2_with fail
      go_ret
      exact ⟨by rw [HN.out]; rfl, HB2.out⟩
    · have d3 : decide ((m : Int) < 3) = false := decide_eq_false (by omega)
      have HTO : Hid (isCycB N es l = cycTo N es l m) := isCyc_to hR HM.out (by omega)
      have hR0 : Hid (RW w2 w2) := RW.refl w2
      have HC0 : Hid (cycTo N es l 0 = true) := rfl
      clear hR
      go_wp2_with fail
      clear d3
      go_loopw [5] (fun i wr => ∃ k : Nat, k ≤ m ∧ i = .int .i64 k ∧ Hid (cycTo N es l k = true) ∧ Hid (RW w2 wr)) (fun i _ => m - (intOf i).toNat)
      case atStart => exact ⟨0, Nat.zero_le _, rfl, HC0, hR0⟩
      case round =>
        obtain ⟨k, hk, rfl, hto, hrw⟩ := hrel
        obtain ⟨y0, y1⟩ := later2 hrw.out HX2.out
        have HBR := Lib.hid (bel_trans HB2.out hrw.out)
        by_cases hlt : k < m
        · have HLT := Lib.hid hlt
          have HLR := Lib.hid (HL.out.below HBR.out)
          obtain ⟨b, o, rfl, hc⟩ := HLR.out.2.2 (by omega)
          have hck := hc k hlt
          obtain ⟨nx, hnx⟩ : ∃ nx, nx = (k + 1) % m := ⟨_, rfl⟩
          have hnm : nx < m := by rw [hnx]; exact Nat.mod_lt _ (by omega)
          have hcn := hc nx hnm
          have HSUC : Hid (∀ q, cycAt N es l k = q → cycTo N es l (k + 1) = q) := fun q hq => by rw [cycTo, hto.out, hq]; simp
          have HFAL : Hid (cycAt N es l k = false → isCycB N es l = false) := fun hq => by rw [HTO.out]; exact cycTo_false hq HLT.out
          have HAT : Hid (cycAt N es l k = (!(decide (gi l k ∈ l.take k)) && hasB N es (gi l k) (gi l nx))) := by
            unfold Hid cycAt
            rw [HM.out, hnx]
          have tm1 : ((k : Int) + 1).tmod (m : Int) = (nx : Int) := by
            rw [hnx, Int.tmod_eq_emod_of_nonneg (by omega)]
            simp
          have tm2 : ((k : Int) + 1) % (m : Int) = (nx : Int) := by
            rw [hnx]
            simp
          have s1 : IntKind.i64.wrap ((k : Int) + 1) = (k : Int) + 1 := by rw [IntKind.wrap_i64]; omega
          have s2 : IntKind.i64.wrap (nx : Int) = (nx : Int) := by rw [IntKind.wrap_i64]; omega
          have hm0 : ¬ m = 0 := by omega
          have hki : (0 : Int) ≤ (k : Int) ∧ (k : Int) < (m : Int) := by omega
          have hni : (0 : Int) ≤ (nx : Int) ∧ (nx : Int) < (m : Int) := by omega
          have hcut := fun W => cut_to (some ⟨b, o, none⟩) m d k (k : Int) rfl (by omega) W
          have hin := fun W (hW : ReadI W (some ⟨b, o, none⟩) m l) => in_any (c := d) (gi l k) W (hW.take k (by omega))
          have hhas := fun W (hW : ReadE W A n es) => has2_any (N := N) (c := c) (gi l k) (gi l nx) W hW
          clear hc hnx hnm
          generalize decide (gi l k ∈ l.take k) = bi at *
          generalize hasB N es (gi l k) (gi l nx) = bh at *
          generalize gi l k = x at *
          generalize gi l nx = y at *
          have HC : Hid (wr.cell? ⟨w.heap.size, 0, none⟩ = some (.int .i64 N) ∧ wr.cell? ⟨w.heap.size, 1, none⟩ = some (.slice A n c) ∧ wr.cell? ⟨b, o + k, none⟩ = some (.int .i64 x) ∧ wr.cell? ⟨b, o + nx, none⟩ = some (.int .i64 y)) := ⟨y0, y1, hck, hcn⟩
          have HIN := Lib.hid hin
          have HHA := Lib.hid hhas
          have HLX := Lib.hid HLR.out
          have HEX := Lib.hid (HE.out.below HBR.out)
          clear hin hhas
          cases bi
          · cases bh
            all_goals
              go_wp2_with fail
              go_region_held3 (fun w' => w'.cell? ⟨w.heap.size, 0, none⟩ = some (.int .i64 N) ∧ w'.cell? ⟨w.heap.size, 1, none⟩ = some (.slice A n c) ∧ w'.cell? ⟨b, o + k, none⟩ = some (.int .i64 x) ∧ w'.cell? ⟨b, o + nx, none⟩ = some (.int .i64 y) ∧ RW wr w')
                (first | assumption | exact RW.four HC.out (RW.refl wr).drew | exact RW.four HC.out (RW.later (And.right (And.right (And.right (And.right (by assumption))))) hb9) | fail)
                (first
                  | (go_at_call 26; refine (HIN.out _ (HLX.out.below (And.right (And.right (And.right (And.right (by assumption))))))).mono ?_; rintro e w8 ⟨rfl, rfl⟩)
                  | (go_at_call 25; refine (HHA.out _ (HEX.out.below (And.right (And.right (And.right (And.right (by assumption))))))).mono ?_; rintro e w9 ⟨rfl, hb9⟩)
                  | fail)
            · have HF : Hid (isCycB N es l = false) := HFAL.out (by rw [HAT.out]; rfl)
              have hfin : RW wr w9 := And.right (And.right (And.right (And.right (by assumption))))
              have HFB := Lib.hid (bel_trans HBR.out hfin)
              clear tm1 tm2 s1 s2
              go_wp2_with fail
              go_ret
              exact ⟨by rw [HF.out]; rfl, HFB.out⟩
            · have HT : Hid (cycTo N es l (k + 1) = true) := HSUC.out _ (by rw [HAT.out]; rfl)
              have hfin : RW wr w9 := And.right (And.right (And.right (And.right (by assumption))))
              have HR9 := Lib.hid (RW.later hrw.out hfin)
              clear tm1 tm2 s1 s2
              go_wp2_with fail
              go_roundw
              case rel => exact ⟨k + 1, by have := HLT.out; omega, by go_num, HT, HR9⟩
              case measure => have := HLT.out; simp [intOf]; omega
          · have HF : Hid (isCycB N es l = false) := HFAL.out (by rw [HAT.out]; rfl)
            go_wp2_with fail
            have HLD := Lib.hid (HLX.out.below (RW.refl wr).drew)
            have hcd := RW.four HC.out (RW.refl wr).drew
            refine wp_region_held_drew (S := fun w' => w'.cell? ⟨w.heap.size, 0, none⟩ = some (.int .i64 N) ∧ w'.cell? ⟨w.heap.size, 1, none⟩ = some (.slice A n c) ∧ w'.cell? ⟨b, o + k, none⟩ = some (.int .i64 x) ∧ w'.cell? ⟨b, o + nx, none⟩ = some (.int .i64 y) ∧ RW wr w') (by kernel_rfl) hcd (fun hHeld => ?_)
            refine wpAnyH_take (i := 0) (oi := ?oiz201x0) (v := ?vz201x0) ?hiz201x0 (by kernel_rfl) (by kernel_rfl) (by kernel_rfl) ?hQz201x0 ?hyz201x0 (by assumption) ?restz201x0
            case hiz201x0 => first | (simp only [List.getElem?_toArray, List.getElem?_cons_zero, List.getElem?_cons_succ]; rfl) | rfl
            case hQz201x0 => exact fun _ _ _ h => h
            case hyz201x0 => (refine Or.inl ⟨by rfl, ?_⟩; intro w hSw; (try dsimp only at hSw); go_simp; (try with_reducible rfl))
            simp only [Act.put, List.setIfInBounds_toArray, List.set_cons_zero, List.set_cons_succ]
            refine wpAnyH_take (i := 1) (oi := ?oiz202x1) (v := ?vz202x1) ?hiz202x1 (by kernel_rfl) (by kernel_rfl) (by kernel_rfl) ?hQz202x1 ?hyz202x1 (by assumption) ?restz202x1
            case hiz202x1 => first | (simp only [List.getElem?_toArray, List.getElem?_cons_zero, List.getElem?_cons_succ]; rfl) | rfl
            case hQz202x1 => exact fun _ _ _ h => h
            case hyz202x1 => (refine Or.inl ⟨by rfl, ?_⟩; intro w hSw; (try dsimp only at hSw); go_simp; (try with_reducible rfl))
            simp only [Act.put, List.setIfInBounds_toArray, List.set_cons_zero, List.set_cons_succ]
            refine wpAnyH_take (i := 2) (oi := ?oiz203x2) (v := ?vz203x2) ?hiz203x2 (by kernel_rfl) (by kernel_rfl) (by kernel_rfl) ?hQz203x2 ?hyz203x2 (by assumption) ?restz203x2
            case hiz203x2 => first | (simp only [List.getElem?_toArray, List.getElem?_cons_zero, List.getElem?_cons_succ]; rfl) | rfl
            case hQz203x2 => exact fun _ _ _ h => h
            case hyz203x2 => (refine Or.inl ⟨by rfl, ?_⟩; intro w hSw; (try dsimp only at hSw); go_simp; (try with_reducible rfl))
            simp only [Act.put, List.setIfInBounds_toArray, List.set_cons_zero, List.set_cons_succ]
            refine wpAnyH_take (i := 3) (oi := ?oiz204x3) (v := ?vz204x3) ?hiz204x3 (by kernel_rfl) (by kernel_rfl) (by kernel_rfl) ?hQz204x3 ?hyz204x3 (by assumption) ?restz204x3
            case hiz204x3 => first | (simp only [List.getElem?_toArray, List.getElem?_cons_zero, List.getElem?_cons_succ]; rfl) | rfl
            case hQz204x3 => exact fun _ _ _ h => h
            case hyz204x3 => (refine Or.inl ⟨by rfl, ?_⟩; intro w hSw; (try dsimp only at hSw); go_simp; (try with_reducible rfl))
            simp only [Act.put, List.setIfInBounds_toArray, List.set_cons_zero, List.set_cons_succ]
            refine wpAnyH_take (i := 4) (oi := ?oiz205x4) (v := ?vz205x4) ?hiz205x4 (by kernel_rfl) (by kernel_rfl) (by kernel_rfl) ?hQz205x4 ?hyz205x4 (by assumption) ?restz205x4
            case hiz205x4 => first | (simp only [List.getElem?_toArray, List.getElem?_cons_zero, List.getElem?_cons_succ]; rfl) | rfl
            case hQz205x4 => exact fun _ _ _ h => h
            case hyz205x4 => (refine Or.inl ⟨by rfl, ?_⟩; intro w hSw; (try dsimp only at hSw); go_simp; (try with_reducible rfl))
            simp only [Act.put, List.setIfInBounds_toArray, List.set_cons_zero, List.set_cons_succ]
            refine wpAnyH_take (i := 5) (oi := ?oiz206x5) (v := ?vz206x5) ?hiz206x5 (by kernel_rfl) (by kernel_rfl) (by kernel_rfl) ?hQz206x5 ?hyz206x5 (by assumption) ?restz206x5
            case hiz206x5 => first | (simp only [List.getElem?_toArray, List.getElem?_cons_zero, List.getElem?_cons_succ]; rfl) | rfl
            case hQz206x5 => exact fun _ _ _ h => h
            case hyz206x5 => (refine Or.inl ⟨by rfl, ?_⟩; intro w hSw; (try dsimp only at hSw); go_simp; (try with_reducible rfl))
            simp only [Act.put, List.setIfInBounds_toArray, List.set_cons_zero, List.set_cons_succ]
            refine wpAnyH_take (i := 6) (oi := ?oiz207x6) (v := ?vz207x6) ?hiz207x6 (by kernel_rfl) (by kernel_rfl) (by kernel_rfl) ?hQz207x6 ?hyz207x6 (by assumption) ?restz207x6
            case hiz207x6 => first | (simp only [List.getElem?_toArray, List.getElem?_cons_zero, List.getElem?_cons_succ]; rfl) | rfl
            case hQz207x6 => exact fun _ _ _ h => h
            case hyz207x6 => (refine Or.inl ⟨by rfl, ?_⟩; intro w hSw; (try dsimp only at hSw); go_simp; (try with_reducible rfl))
            simp only [Act.put, List.setIfInBounds_toArray, List.set_cons_zero, List.set_cons_succ]
            refine wpAnyH_ready (rs := [7]) (by kernel_rfl) (by simp) ?_
            refine AllReadyH.cons rfl (fun K hK => ?_) AllReadyH.nil
            go_simp
            go_at_call 26
            refine (HIN.out _ HLD.out).mono ?_
            rintro e w8 ⟨rfl, rfl⟩
            (try go_wp2_with fail)
            refine hK.out _ _ hcd (fun hHeld => ?_)
            clear hK K
            (try simp only [Act.put, List.setIfInBounds_toArray, List.set_cons_zero, List.set_cons_succ])
            refine wpAnyH_take (i := 8) (oi := ?oiz208x8) (v := ?vz208x8) ?hiz208x8 (by kernel_rfl) (by kernel_rfl) (by kernel_rfl) ?hQz208x8 ?hyz208x8 (by assumption) ?restz208x8
            case hiz208x8 => first | (simp only [List.getElem?_toArray, List.getElem?_cons_zero, List.getElem?_cons_succ]; rfl) | rfl
            case hQz208x8 => exact fun _ _ _ h => h
            case hyz208x8 => (refine Or.inl ⟨by rfl, ?_⟩; intro w hSw; (try dsimp only at hSw); go_simp; (try with_reducible rfl))
            simp only [Act.put, List.setIfInBounds_toArray, List.set_cons_zero, List.set_cons_succ]
            refine wpAnyH_take (i := 9) (oi := ?oiz209x9) (v := undef) ?hiz209x9 (by kernel_rfl) (by kernel_rfl) (by kernel_rfl) ?hQz209x9 ?hyz209x9 (by assumption) ?restz209x9
            case hiz209x9 => first | (simp only [List.getElem?_toArray, List.getElem?_cons_zero, List.getElem?_cons_succ]; rfl) | rfl
            case hQz209x9 => exact fun _ _ _ h => h
            case hyz209x9 => exact Or.inr ⟨by rfl, rfl⟩
            simp only [Act.put, List.setIfInBounds_toArray, List.set_cons_zero, List.set_cons_succ]
            refine wpAnyH_take (i := 10) (oi := ?oiz210x10) (v := undef) ?hiz210x10 (by kernel_rfl) (by kernel_rfl) (by kernel_rfl) ?hQz210x10 ?hyz210x10 (by assumption) ?restz210x10
            case hiz210x10 => first | (simp only [List.getElem?_toArray, List.getElem?_cons_zero, List.getElem?_cons_succ]; rfl) | rfl
            case hQz210x10 => exact fun _ _ _ h => h
            case hyz210x10 => exact Or.inr ⟨by rfl, rfl⟩
            simp only [Act.put, List.setIfInBounds_toArray, List.set_cons_zero, List.set_cons_succ]
            refine wpAnyH_take (i := 11) (oi := ?oiz211x11) (v := undef) ?hiz211x11 (by kernel_rfl) (by kernel_rfl) (by kernel_rfl) ?hQz211x11 ?hyz211x11 (by assumption) ?restz211x11
            case hiz211x11 => first | (simp only [List.getElem?_toArray, List.getElem?_cons_zero, List.getElem?_cons_succ]; rfl) | rfl
            case hQz211x11 => exact fun _ _ _ h => h
            case hyz211x11 => exact Or.inr ⟨by rfl, rfl⟩
            simp only [Act.put, List.setIfInBounds_toArray, List.set_cons_zero, List.set_cons_succ]
            refine wpAnyH_take (i := 12) (oi := ?oiz212x12) (v := undef) ?hiz212x12 (by kernel_rfl) (by kernel_rfl) (by kernel_rfl) ?hQz212x12 ?hyz212x12 (by assumption) ?restz212x12
            case hiz212x12 => first | (simp only [List.getElem?_toArray, List.getElem?_cons_zero, List.getElem?_cons_succ]; rfl) | rfl
            case hQz212x12 => exact fun _ _ _ h => h
            case hyz212x12 => exact Or.inr ⟨by rfl, rfl⟩
            simp only [Act.put, List.setIfInBounds_toArray, List.set_cons_zero, List.set_cons_succ]
            refine wpAnyH_take (i := 13) (oi := ?oiz213x13) (v := undef) ?hiz213x13 (by kernel_rfl) (by kernel_rfl) (by kernel_rfl) ?hQz213x13 ?hyz213x13 (by assumption) ?restz213x13
            case hiz213x13 => first | (simp only [List.getElem?_toArray, List.getElem?_cons_zero, List.getElem?_cons_succ]; rfl) | rfl
            case hQz213x13 => exact fun _ _ _ h => h
            case hyz213x13 => exact Or.inr ⟨by rfl, rfl⟩
            simp only [Act.put, List.setIfInBounds_toArray, List.set_cons_zero, List.set_cons_succ]
            refine wpAnyH_take (i := 14) (oi := ?oiz214x14) (v := undef) ?hiz214x14 (by kernel_rfl) (by kernel_rfl) (by kernel_rfl) ?hQz214x14 ?hyz214x14 (by assumption) ?restz214x14
            case hiz214x14 => first | (simp only [List.getElem?_toArray, List.getElem?_cons_zero, List.getElem?_cons_succ]; rfl) | rfl
            case hQz214x14 => exact fun _ _ _ h => h
            case hyz214x14 => exact Or.inr ⟨by rfl, rfl⟩
            simp only [Act.put, List.setIfInBounds_toArray, List.set_cons_zero, List.set_cons_succ]
            refine wpAnyH_take (i := 15) (oi := ?oiz215x15) (v := undef) ?hiz215x15 (by kernel_rfl) (by kernel_rfl) (by kernel_rfl) ?hQz215x15 ?hyz215x15 (by assumption) ?restz215x15
            case hiz215x15 => first | (simp only [List.getElem?_toArray, List.getElem?_cons_zero, List.getElem?_cons_succ]; rfl) | rfl
            case hQz215x15 => exact fun _ _ _ h => h
            case hyz215x15 => exact Or.inr ⟨by rfl, rfl⟩
            simp only [Act.put, List.setIfInBounds_toArray, List.set_cons_zero, List.set_cons_succ]
            refine wpAnyH_take (i := 16) (oi := ?oiz216x16) (v := undef) ?hiz216x16 (by kernel_rfl) (by kernel_rfl) (by kernel_rfl) ?hQz216x16 ?hyz216x16 (by assumption) ?restz216x16
            case hiz216x16 => first | (simp only [List.getElem?_toArray, List.getElem?_cons_zero, List.getElem?_cons_succ]; rfl) | rfl
            case hQz216x16 => exact fun _ _ _ h => h
            case hyz216x16 => exact Or.inr ⟨by rfl, rfl⟩
            simp only [Act.put, List.setIfInBounds_toArray, List.set_cons_zero, List.set_cons_succ]
            refine wpAnyH_take (i := 17) (oi := ?oiz217x17) (v := undef) ?hiz217x17 (by kernel_rfl) (by kernel_rfl) (by kernel_rfl) ?hQz217x17 ?hyz217x17 (by assumption) ?restz217x17
            case hiz217x17 => first | (simp only [List.getElem?_toArray, List.getElem?_cons_zero, List.getElem?_cons_succ]; rfl) | rfl
            case hQz217x17 => exact fun _ _ _ h => h
            case hyz217x17 => exact Or.inr ⟨by rfl, rfl⟩
            simp only [Act.put, List.setIfInBounds_toArray, List.set_cons_zero, List.set_cons_succ]
            refine wpAnyH_take (i := 18) (oi := ?oiz218x18) (v := undef) ?hiz218x18 (by kernel_rfl) (by kernel_rfl) (by kernel_rfl) ?hQz218x18 ?hyz218x18 (by assumption) ?restz218x18
            case hiz218x18 => first | (simp only [List.getElem?_toArray, List.getElem?_cons_zero, List.getElem?_cons_succ]; rfl) | rfl
            case hQz218x18 => exact fun _ _ _ h => h
            case hyz218x18 => exact Or.inr ⟨by rfl, rfl⟩
            simp only [Act.put, List.setIfInBounds_toArray, List.set_cons_zero, List.set_cons_succ]
            refine wpAnyH_take (i := 19) (oi := ?oiz219x19) (v := undef) ?hiz219x19 (by kernel_rfl) (by kernel_rfl) (by kernel_rfl) ?hQz219x19 ?hyz219x19 (by assumption) ?restz219x19
            case hiz219x19 => first | (simp only [List.getElem?_toArray, List.getElem?_cons_zero, List.getElem?_cons_succ]; rfl) | rfl
            case hQz219x19 => exact fun _ _ _ h => h
            case hyz219x19 => exact Or.inr ⟨by rfl, rfl⟩
            simp only [Act.put, List.setIfInBounds_toArray, List.set_cons_zero, List.set_cons_succ]
            refine wpAnyH_take (i := 20) (oi := ?oiz220x20) (v := undef) ?hiz220x20 (by kernel_rfl) (by kernel_rfl) (by kernel_rfl) ?hQz220x20 ?hyz220x20 (by assumption) ?restz220x20
            case hiz220x20 => first | (simp only [List.getElem?_toArray, List.getElem?_cons_zero, List.getElem?_cons_succ]; rfl) | rfl
            case hQz220x20 => exact fun _ _ _ h => h
            case hyz220x20 => exact Or.inr ⟨by rfl, rfl⟩
            simp only [Act.put, List.setIfInBounds_toArray, List.set_cons_zero, List.set_cons_succ]
            refine wpAnyH_take (i := 21) (oi := ?oiz221x21) (v := undef) ?hiz221x21 (by kernel_rfl) (by kernel_rfl) (by kernel_rfl) ?hQz221x21 ?hyz221x21 (by assumption) ?restz221x21
            case hiz221x21 => first | (simp only [List.getElem?_toArray, List.getElem?_cons_zero, List.getElem?_cons_succ]; rfl) | rfl
            case hQz221x21 => exact fun _ _ _ h => h
            case hyz221x21 => exact Or.inr ⟨by rfl, rfl⟩
            simp only [Act.put, List.setIfInBounds_toArray, List.set_cons_zero, List.set_cons_succ]
            refine wpAnyH_take (i := 22) (oi := ?oiz222x22) (v := undef) ?hiz222x22 (by kernel_rfl) (by kernel_rfl) (by kernel_rfl) ?hQz222x22 ?hyz222x22 (by assumption) ?restz222x22
            case hiz222x22 => first | (simp only [List.getElem?_toArray, List.getElem?_cons_zero, List.getElem?_cons_succ]; rfl) | rfl
            case hQz222x22 => exact fun _ _ _ h => h
            case hyz222x22 => exact Or.inr ⟨by rfl, rfl⟩
            simp only [Act.put, List.setIfInBounds_toArray, List.set_cons_zero, List.set_cons_succ]
            refine wpAnyH_take (i := 23) (oi := ?oiz223x23) (v := undef) ?hiz223x23 (by kernel_rfl) (by kernel_rfl) (by kernel_rfl) ?hQz223x23 ?hyz223x23 (by assumption) ?restz223x23
            case hiz223x23 => first | (simp only [List.getElem?_toArray, List.getElem?_cons_zero, List.getElem?_cons_succ]; rfl) | rfl
            case hQz223x23 => exact fun _ _ _ h => h
            case hyz223x23 => exact Or.inr ⟨by rfl, rfl⟩
            simp only [Act.put, List.setIfInBounds_toArray, List.set_cons_zero, List.set_cons_succ]
            refine wpAnyH_take (i := 24) (oi := ?oiz224x24) (v := ?vz224x24) ?hiz224x24 (by kernel_rfl) (by kernel_rfl) (by kernel_rfl) ?hQz224x24 ?hyz224x24 (by assumption) ?restz224x24
            case hiz224x24 => first | (simp only [List.getElem?_toArray, List.getElem?_cons_zero, List.getElem?_cons_succ]; rfl) | rfl
            case hQz224x24 => exact fun _ _ _ h => h
            case hyz224x24 => (refine Or.inl ⟨by rfl, ?_⟩; intro w hSw; (try dsimp only at hSw); go_simp; (try with_reducible rfl))
            simp only [Act.put, List.setIfInBounds_toArray, List.set_cons_zero, List.set_cons_succ]
            refine wpAnyH_done (by kernel_rfl) ?_ _
            have HFB : Hid (Below w.heap.size w wr.drew) := bel_trans HBR.out (RW.refl wr).drew
            clear tm1 tm2 s1 s2
            go_wp2_with fail
            go_ret
            exact ⟨by rw [HF.out]; rfl, HFB.out⟩
        · obtain rfl : k = m := by omega
          have hd : decide ((k : Int) < (k : Int)) = false := by rw [decide_eq_false_iff_not]; omega
          clear hlt hk
          go_wp2_with fail
          go_ret
          exact ⟨by rw [HTO.out, hto.out]; rfl, HBR.out⟩

section
open Go.Maps

/- A map of one's own that marks numbers as seen. -/
theorem keyInt : Keyed Try.prog 3 := int_keyed Try.underlying3
theorem zeroBool (w : World) : (zeroValue 4).run Try.prog w = .ok (.bool false) w := by kernel_rfl
/-- The numbers l are marked in the map of block b. -/
def SeenM (w : World) (b n : Nat) (l : List Int) : Prop :=
  ∃ D : DataW Unit, w.ownsMap Try.prog 3 (plainElem Try.prog 4) b n D ∧ IsMap D ∧ ∀ x : Int, D.atKey (.int .i64 x) (.lit (.bool false)) = .lit (.bool (decide (x ∈ l)))
theorem SeenM.made (w : World) : SeenM (w.alloc (.map #[] 0)) w.heap.size 0 [] :=
  ⟨_, World.ownsMap_made _ _ _ _, isMap_empty, fun x => by simp [DataW.atKey]⟩
section
variable {w w' : World} {b n : Nat} {l : List Int}
theorem SeenM.lt (h : SeenM w b n l) : b < w.heap.size := by
  obtain ⟨D, h1, -⟩ := h
  exact h1.lt
theorem SeenM.grown {row : Option Nat} (h : SeenM w b n l) (hg : w.grownBy w' row) (hne : some b ≠ row) : SeenM w' b n l := by
  obtain ⟨D, h1, h2, h3⟩ := h
  exact ⟨D, h1.kept hg hne, h2, h3⟩
theorem SeenM.later (h : SeenM w b n l) (hb : Below w.heap.size w w') : SeenM w' b n l :=
  h.grown (row := none) ⟨hb.os, hb.tape, hb.output, hb.size, fun k hk _ => hb.block k hk⟩ (by simp)
set_option maxRecDepth 100000 in
theorem bool_inv {v : Value} {z : DataW Unit × List MemPlace} (h : plainElem Try.prog 4 v = some z) : ∃ q, v = .bool q ∧ z = (.lit (.bool q), []) := by
  unfold plainElem at h
  rw [Try.underlying4] at h
  cases v <;> simp at h
  subst h
  exact ⟨_, rfl, rfl⟩
set_option maxRecDepth 100000 in
/-- seen[x]. -/
theorem SeenM.look (h : SeenM w b n l) {x : Int} (hx : -9223372036854775808 ≤ x ∧ x ≤ 9223372036854775807) : (Instr.lookup 101 (.map (some b)) (.int .i64 x) false).run Try.prog w = .ok (.bool (decide (x ∈ l))) w := by
  obtain ⟨D, h1, h2, h3⟩ := h
  obtain ⟨v, ps, hrun, hv⟩ := h1.lookup keyInt Try.underlying101 (zeroBool w) (plainElem_bool Try.underlying4 false) (keyOf_int_mk Try.underlying3 (WalkArith.wf_i64 hx))
  rw [h3 x] at hv
  obtain ⟨q, rfl, hz⟩ := bool_inv hv
  injection hz with h4 h5
  injection h4 with h4
  injection h4 with h4
  rw [hrun, h4]
set_option maxRecDepth 100000 in
/-- seen[x] = true, at the operation. -/
theorem SeenM.mark {ops : Array Oper} {rest : List Oper} {o : Oper} {a : Act} {Q : Exit → Act → World → Prop} (h : SeenM w b n l) {x : Int} (hx : -9223372036854775808 ≤ x ∧ x ≤ 9223372036854775807) (hn : n ≤ 1000000000)
    (hg : o.guard = none) (m k v : Operand) (hop : o.op = Op.mapUpdate 101 m k v) (hm : a.eval m = .map (some b)) (hk : a.eval k = .int .i64 x) (hv : a.eval v = .bool true)
    (hK : ∀ w', SeenM w' b (n + 1) (l ++ [x]) → w.grownBy w' (some b) → wpList Try.prog ops Q rest (a.put o.dst undef) w') : wpList Try.prog ops Q (o :: rest) a w := by
  obtain ⟨D, h1, h2, h3⟩ := h
  refine wpList_mapUpdate_own w hg m k v 101 hop 3 4 keyInt Try.underlying101 _ b n D hm h1 (by unfold maxLen; omega) _ _ (.int .i64 x) hk hv (keyOf_int_mk Try.underlying3 (WalkArith.wf_i64 hx)) _ [] (plainElem_bool Try.underlying4 true) ?_
  intro w1 o1 g1
  refine hK w1 ⟨_, o1, h2.put _ _, fun y => ?_⟩ g1
  by_cases e : y = x
  · subst e
    rw [atKey_put_same h2 (by first | exact ⟨_, _, rfl⟩ | trivial | (simp [WideAt.IsKeyLit]))]
    simp
  · rw [atKey_put_other (by intro q; injection q with q1 q2; exact e q2), h3 y]
    simp [e]
end
end

/- The walk of sides.IsCycle. -/
set_option maxHeartbeats 8000000 in
set_option maxRecDepth 100000 in
theorem siscyc_any {A B : Option Addr} {n c m d : Nat} {es : List Ed} {l : List Int} (N : Int) (w : World) (h : ReadE w A n es) (hl : ReadI w B m l) (hmd : m ≤ 1000000) (hbd : ∀ j, j < m → -9223372036854775808 ≤ gi l j ∧ gi l j ≤ 9223372036854775807) :
    Calls Try.prog 61 #[.agg #[.int .i64 N, .slice A n c], .slice B m d] w fun e w' => e = .returned (.bool (isCycB N es l)) ∧ Below w.heap.size w w' := by
  have hb1 := bel_alloc w (gcells N A n c)
  have hr := gright_any (c := c) N (w.alloc (gcells N A n c)) (h.below hb1)
  have HB1 := Lib.hid hb1
  have HX := Lib.hid (boxg w N A n c)
  have HE := Lib.hid h
  have HL := Lib.hid hl
  have HM := Lib.hid hl.1
  have HBD := Lib.hid hbd
  clear hb1 h hl hbd
  have hmm := @run_makeMap Try.prog
  go_enter Try.func61, Try.ntmps61
  obtain ⟨x0, x1⟩ := HX.out
  go_wp2_with fail
  refine hr.mono ?_
  rintro e w2 ⟨rfl, hb2⟩
  have HB2 := Lib.hid (bel_trans HB1.out hb2)
  have HX2 := Lib.hid (later2 hb2 HX.out)
  clear hb2 hr x0 x1
  cases hR : rightB N es
  · have HN : Hid (isCycB N es l = false) := isCyc_noG hR
    clear hR
    go_wp2_with fail
    go_ret
    exact ⟨by rw [HN.out]; rfl, HB2.out⟩
  · have HRB := Lib.hid hR
    by_cases h3 : m < 3
    · have HN : Hid (isCycB N es l = false) := isCyc_short (by have := HM.out; omega)
      have d3 : decide ((m : Int) < 3) = true := decide_eq_true (by omega)
      clear hR
      go_wp2_with fail
      go_ret
      exact ⟨by rw [HN.out]; rfl, HB2.out⟩
    · have d3 : decide ((m : Int) < 3) = false := decide_eq_false (by omega)
      have HTO : Hid (isCycB N es l = cycTo N es l m) := isCyc_to hR HM.out (by omega)
      have hR0 : Hid (RW w2 (w2.alloc (.map #[] 0))) := bel_alloc _ _
      have HC0 : Hid (cycTo N es l 0 = true) := rfl
      have HS0 : Hid (SeenM (w2.alloc (.map #[] 0)) w2.heap.size 0 (l.take 0)) := by rw [List.take_zero]; exact SeenM.made w2
      clear hR
      go_wp2_with fail
      clear d3 hmm
      go_loopw [19] (fun i wr => ∃ k : Nat, k ≤ m ∧ i = .int .i64 k ∧ Hid (cycTo N es l k = true) ∧ Hid (SeenM wr w2.heap.size k (l.take k)) ∧ Hid (RW w2 wr)) (fun i _ => m - (intOf i).toNat)
      case atStart => exact ⟨0, Nat.zero_le _, rfl, HC0, HS0, hR0⟩
      case round =>
        obtain ⟨k, hk, rfl, hto, hse, hrw⟩ := hrel
        obtain ⟨y0, y1⟩ := later2 hrw.out HX2.out
        have HBR := Lib.hid (bel_trans HB2.out hrw.out)
        by_cases hlt : k < m
        · have HLT := Lib.hid hlt
          have HLR := Lib.hid (HL.out.below HBR.out)
          obtain ⟨b, o, rfl, hc⟩ := HLR.out.2.2 (by omega)
          have hck := hc k hlt
          obtain ⟨nx, hnx⟩ : ∃ nx, nx = (k + 1) % m := ⟨_, rfl⟩
          have hnm : nx < m := by rw [hnx]; exact Nat.mod_lt _ (by omega)
          have hcn := hc nx hnm
          have HSUC : Hid (∀ q, cycAt N es l k = q → cycTo N es l (k + 1) = q) := fun q hq => by rw [cycTo, hto.out, hq]; simp
          have HFAL : Hid (cycAt N es l k = false → isCycB N es l = false) := fun hq => by rw [HTO.out]; exact cycTo_false hq HLT.out
          have HAT : Hid (cycAt N es l k = (!(decide (gi l k ∈ l.take k)) && hasB N es (gi l k) (gi l nx))) := by
            unfold Hid cycAt
            rw [HM.out, hnx]
          have HTK : Hid (l.take (k + 1) = l.take k ++ [gi l k]) := take_succ_eq (by have := HM.out; omega)
          have tm1 : ((k : Int) + 1).tmod (m : Int) = (nx : Int) := by
            rw [hnx, Int.tmod_eq_emod_of_nonneg (by omega)]
            simp
          have tm2 : ((k : Int) + 1) % (m : Int) = (nx : Int) := by
            rw [hnx]
            simp
          have s1 : IntKind.i64.wrap ((k : Int) + 1) = (k : Int) + 1 := by rw [IntKind.wrap_i64]; omega
          have s2 : IntKind.i64.wrap (nx : Int) = (nx : Int) := by rw [IntKind.wrap_i64]; omega
          have hm0 : ¬ m = 0 := by omega
          have hki : (0 : Int) ≤ (k : Int) ∧ (k : Int) < (m : Int) := by omega
          have hni : (0 : Int) ≤ (nx : Int) ∧ (nx : Int) < (m : Int) := by omega
          have hlk := (hse.out.later (RW.refl wr).drew).look (HBD.out k hlt)
          have HXB := Lib.hid (HBD.out k hlt)
          have hhas := fun W (hW : ReadE W A n es) => ghas_any (N := N) (c := c) (gi l k) (gi l nx) W hW
          clear hc hnx hnm
          generalize decide (gi l k ∈ l.take k) = bi at *
          generalize hasB N es (gi l k) (gi l nx) = bh at *
          generalize gi l k = x at *
          generalize gi l nx = y at *
          have HC : Hid (wr.cell? ⟨w.heap.size, 0, none⟩ = some (.int .i64 N) ∧ wr.cell? ⟨w.heap.size, 1, none⟩ = some (.slice A n c) ∧ wr.cell? ⟨b, o + nx, none⟩ = some (.int .i64 y)) := ⟨y0, y1, hcn⟩
          have hcd := RW.three HC.out (RW.refl wr).drew
          have HHA := Lib.hid hhas
          have HED := Lib.hid (HE.out.below (bel_trans HBR.out (RW.refl wr).drew))
          clear hhas
          cases bi
          · cases bh
            · go_wp2_with fail
              refine wp_region_held_drew (S := fun w' => w'.cell? ⟨w.heap.size, 0, none⟩ = some (.int .i64 N) ∧ w'.cell? ⟨w.heap.size, 1, none⟩ = some (.slice A n c) ∧ w'.cell? ⟨b, o + nx, none⟩ = some (.int .i64 y) ∧ RW wr w') (by kernel_rfl) hcd (fun hHeld => ?_)
              refine wpAnyH_take (i := 0) (oi := ?oiz317x0) (v := ?vz317x0) ?hiz317x0 (by kernel_rfl) (by kernel_rfl) (by kernel_rfl) ?hQz317x0 ?hyz317x0 (by assumption) ?restz317x0
              case hiz317x0 => first | (simp only [List.getElem?_toArray, List.getElem?_cons_zero, List.getElem?_cons_succ]; rfl) | rfl
              case hQz317x0 => exact fun _ _ _ h => h
              case hyz317x0 => (refine Or.inl ⟨by rfl, ?_⟩; intro w hSw; (try dsimp only at hSw); go_simp; (try with_reducible rfl))
              simp only [Act.put, List.setIfInBounds_toArray, List.set_cons_zero, List.set_cons_succ]
              refine wpAnyH_take (i := 1) (oi := ?oiz318x1) (v := ?vz318x1) ?hiz318x1 (by kernel_rfl) (by kernel_rfl) (by kernel_rfl) ?hQz318x1 ?hyz318x1 (by assumption) ?restz318x1
              case hiz318x1 => first | (simp only [List.getElem?_toArray, List.getElem?_cons_zero, List.getElem?_cons_succ]; rfl) | rfl
              case hQz318x1 => exact fun _ _ _ h => h
              case hyz318x1 => (refine Or.inl ⟨by rfl, ?_⟩; intro w hSw; (try dsimp only at hSw); go_simp; (try with_reducible rfl))
              simp only [Act.put, List.setIfInBounds_toArray, List.set_cons_zero, List.set_cons_succ]
              refine wpAnyH_ready (rs := [2]) (by kernel_rfl) (by simp) ?_
              refine AllReadyH.cons rfl (fun K hK => ?_) AllReadyH.nil
              go_simp
              refine hK.out _ _ hcd (fun hHeld => ?_)
              clear hK K
              (try simp only [Act.put, List.setIfInBounds_toArray, List.set_cons_zero, List.set_cons_succ])
              refine wpAnyH_take (i := 3) (oi := ?oiz319x3) (v := ?vz319x3) ?hiz319x3 (by kernel_rfl) (by kernel_rfl) (by kernel_rfl) ?hQz319x3 ?hyz319x3 (by assumption) ?restz319x3
              case hiz319x3 => first | (simp only [List.getElem?_toArray, List.getElem?_cons_zero, List.getElem?_cons_succ]; rfl) | rfl
              case hQz319x3 => exact fun _ _ _ h => h
              case hyz319x3 => (refine Or.inl ⟨by rfl, ?_⟩; intro w hSw; (try dsimp only at hSw); go_simp; (try with_reducible rfl))
              simp only [Act.put, List.setIfInBounds_toArray, List.set_cons_zero, List.set_cons_succ]
              refine wpAnyH_take (i := 4) (oi := ?oiz320x4) (v := ?vz320x4) ?hiz320x4 (by kernel_rfl) (by kernel_rfl) (by kernel_rfl) ?hQz320x4 ?hyz320x4 (by assumption) ?restz320x4
              case hiz320x4 => first | (simp only [List.getElem?_toArray, List.getElem?_cons_zero, List.getElem?_cons_succ]; rfl) | rfl
              case hQz320x4 => exact fun _ _ _ h => h
              case hyz320x4 => (refine Or.inl ⟨by rfl, ?_⟩; intro w hSw; (try dsimp only at hSw); go_simp; (try with_reducible rfl))
              simp only [Act.put, List.setIfInBounds_toArray, List.set_cons_zero, List.set_cons_succ]
              refine wpAnyH_take (i := 5) (oi := ?oiz321x5) (v := ?vz321x5) ?hiz321x5 (by kernel_rfl) (by kernel_rfl) (by kernel_rfl) ?hQz321x5 ?hyz321x5 (by assumption) ?restz321x5
              case hiz321x5 => first | (simp only [List.getElem?_toArray, List.getElem?_cons_zero, List.getElem?_cons_succ]; rfl) | rfl
              case hQz321x5 => exact fun _ _ _ h => h
              case hyz321x5 => (refine Or.inl ⟨by rfl, ?_⟩; intro w hSw; (try dsimp only at hSw); go_simp; (try with_reducible rfl))
              simp only [Act.put, List.setIfInBounds_toArray, List.set_cons_zero, List.set_cons_succ]
              refine wpAnyH_take (i := 6) (oi := ?oiz322x6) (v := ?vz322x6) ?hiz322x6 (by kernel_rfl) (by kernel_rfl) (by kernel_rfl) ?hQz322x6 ?hyz322x6 (by assumption) ?restz322x6
              case hiz322x6 => first | (simp only [List.getElem?_toArray, List.getElem?_cons_zero, List.getElem?_cons_succ]; rfl) | rfl
              case hQz322x6 => exact fun _ _ _ h => h
              case hyz322x6 => (refine Or.inl ⟨by rfl, ?_⟩; intro w hSw; (try dsimp only at hSw); go_simp; (try with_reducible rfl))
              simp only [Act.put, List.setIfInBounds_toArray, List.set_cons_zero, List.set_cons_succ]
              refine wpAnyH_take (i := 7) (oi := ?oiz323x7) (v := ?vz323x7) ?hiz323x7 (by kernel_rfl) (by kernel_rfl) (by kernel_rfl) ?hQz323x7 ?hyz323x7 (by assumption) ?restz323x7
              case hiz323x7 => first | (simp only [List.getElem?_toArray, List.getElem?_cons_zero, List.getElem?_cons_succ]; rfl) | rfl
              case hQz323x7 => exact fun _ _ _ h => h
              case hyz323x7 => (refine Or.inl ⟨by rfl, ?_⟩; intro w hSw; (try dsimp only at hSw); go_simp; (try with_reducible rfl))
              simp only [Act.put, List.setIfInBounds_toArray, List.set_cons_zero, List.set_cons_succ]
              refine wpAnyH_take (i := 8) (oi := ?oiz324x8) (v := ?vz324x8) ?hiz324x8 (by kernel_rfl) (by kernel_rfl) (by kernel_rfl) ?hQz324x8 ?hyz324x8 (by assumption) ?restz324x8
              case hiz324x8 => first | (simp only [List.getElem?_toArray, List.getElem?_cons_zero, List.getElem?_cons_succ]; rfl) | rfl
              case hQz324x8 => exact fun _ _ _ h => h
              case hyz324x8 => (refine Or.inl ⟨by rfl, ?_⟩; intro w hSw; (try dsimp only at hSw); go_simp; (try with_reducible rfl))
              simp only [Act.put, List.setIfInBounds_toArray, List.set_cons_zero, List.set_cons_succ]
              refine wpAnyH_take (i := 9) (oi := ?oiz325x9) (v := ?vz325x9) ?hiz325x9 (by kernel_rfl) (by kernel_rfl) (by kernel_rfl) ?hQz325x9 ?hyz325x9 (by assumption) ?restz325x9
              case hiz325x9 => first | (simp only [List.getElem?_toArray, List.getElem?_cons_zero, List.getElem?_cons_succ]; rfl) | rfl
              case hQz325x9 => exact fun _ _ _ h => h
              case hyz325x9 => (refine Or.inl ⟨by rfl, ?_⟩; intro w hSw; (try dsimp only at hSw); go_simp; (try with_reducible rfl))
              simp only [Act.put, List.setIfInBounds_toArray, List.set_cons_zero, List.set_cons_succ]
              refine wpAnyH_take (i := 10) (oi := ?oiz326x10) (v := ?vz326x10) ?hiz326x10 (by kernel_rfl) (by kernel_rfl) (by kernel_rfl) ?hQz326x10 ?hyz326x10 (by assumption) ?restz326x10
              case hiz326x10 => first | (simp only [List.getElem?_toArray, List.getElem?_cons_zero, List.getElem?_cons_succ]; rfl) | rfl
              case hQz326x10 => exact fun _ _ _ h => h
              case hyz326x10 => (refine Or.inl ⟨by rfl, ?_⟩; intro w hSw; (try dsimp only at hSw); go_simp; (try with_reducible rfl))
              simp only [Act.put, List.setIfInBounds_toArray, List.set_cons_zero, List.set_cons_succ]
              refine wpAnyH_take (i := 11) (oi := ?oiz327x11) (v := ?vz327x11) ?hiz327x11 (by kernel_rfl) (by kernel_rfl) (by kernel_rfl) ?hQz327x11 ?hyz327x11 (by assumption) ?restz327x11
              case hiz327x11 => first | (simp only [List.getElem?_toArray, List.getElem?_cons_zero, List.getElem?_cons_succ]; rfl) | rfl
              case hQz327x11 => exact fun _ _ _ h => h
              case hyz327x11 => (refine Or.inl ⟨by rfl, ?_⟩; intro w hSw; (try dsimp only at hSw); go_simp; (try with_reducible rfl))
              simp only [Act.put, List.setIfInBounds_toArray, List.set_cons_zero, List.set_cons_succ]
              refine wpAnyH_take (i := 12) (oi := ?oiz328x12) (v := ?vz328x12) ?hiz328x12 (by kernel_rfl) (by kernel_rfl) (by kernel_rfl) ?hQz328x12 ?hyz328x12 (by assumption) ?restz328x12
              case hiz328x12 => first | (simp only [List.getElem?_toArray, List.getElem?_cons_zero, List.getElem?_cons_succ]; rfl) | rfl
              case hQz328x12 => exact fun _ _ _ h => h
              case hyz328x12 => (refine Or.inl ⟨by rfl, ?_⟩; intro w hSw; (try dsimp only at hSw); go_simp; (try with_reducible rfl))
              simp only [Act.put, List.setIfInBounds_toArray, List.set_cons_zero, List.set_cons_succ]
              refine wpAnyH_take (i := 13) (oi := ?oiz329x13) (v := ?vz329x13) ?hiz329x13 (by kernel_rfl) (by kernel_rfl) (by kernel_rfl) ?hQz329x13 ?hyz329x13 (by assumption) ?restz329x13
              case hiz329x13 => first | (simp only [List.getElem?_toArray, List.getElem?_cons_zero, List.getElem?_cons_succ]; rfl) | rfl
              case hQz329x13 => exact fun _ _ _ h => h
              case hyz329x13 => (refine Or.inl ⟨by rfl, ?_⟩; intro w hSw; (try dsimp only at hSw); go_simp; (try with_reducible rfl))
              simp only [Act.put, List.setIfInBounds_toArray, List.set_cons_zero, List.set_cons_succ]
              refine wpAnyH_ready (rs := [14]) (by kernel_rfl) (by simp) ?_
              refine AllReadyH.cons rfl (fun K hK => ?_) AllReadyH.nil
              go_simp
              go_at_call 83
              refine (HHA.out _ HED.out).mono ?_
              rintro e w9 ⟨rfl, hb9⟩
              have hcd9 := RW.three HC.out (RW.later (And.right (And.right (And.right hcd))) hb9)
              (try go_wp2_with fail)
              refine hK.out _ _ hcd9 (fun hHeld => ?_)
              clear hK K
              (try simp only [Act.put, List.setIfInBounds_toArray, List.set_cons_zero, List.set_cons_succ])
              refine wpAnyH_take (i := 15) (oi := ?oiz330x15) (v := ?vz330x15) ?hiz330x15 (by kernel_rfl) (by kernel_rfl) (by kernel_rfl) ?hQz330x15 ?hyz330x15 (by assumption) ?restz330x15
              case hiz330x15 => first | (simp only [List.getElem?_toArray, List.getElem?_cons_zero, List.getElem?_cons_succ]; rfl) | rfl
              case hQz330x15 => exact fun _ _ _ h => h
              case hyz330x15 => (refine Or.inl ⟨by rfl, ?_⟩; intro w hSw; (try dsimp only at hSw); go_simp; (try with_reducible rfl))
              simp only [Act.put, List.setIfInBounds_toArray, List.set_cons_zero, List.set_cons_succ]
              refine wpAnyH_take (i := 16) (oi := ?oiz331x16) (v := ?vz331x16) ?hiz331x16 (by kernel_rfl) (by kernel_rfl) (by kernel_rfl) ?hQz331x16 ?hyz331x16 (by assumption) ?restz331x16
              case hiz331x16 => first | (simp only [List.getElem?_toArray, List.getElem?_cons_zero, List.getElem?_cons_succ]; rfl) | rfl
              case hQz331x16 => exact fun _ _ _ h => h
              case hyz331x16 => (refine Or.inl ⟨by rfl, ?_⟩; intro w hSw; (try dsimp only at hSw); go_simp; (try with_reducible rfl))
              simp only [Act.put, List.setIfInBounds_toArray, List.set_cons_zero, List.set_cons_succ]
              refine wpAnyH_done (by kernel_rfl) ?_ _
              have hfin : RW wr w9 := And.right (And.right (And.right hcd9))
              have HR9 := Lib.hid (RW.later hrw.out hfin)
              have HS9 := Lib.hid (hse.out.later hfin)
              have HF9 := Lib.hid (bel_trans HBR.out hfin)
              clear tm1 tm2 s1 s2 hlk hcd9 hfin
              have HF : Hid (isCycB N es l = false) := HFAL.out (by rw [HAT.out]; rfl)
              go_wp2_with fail
              go_ret
              exact ⟨by rw [HF.out]; rfl, HF9.out⟩
            · go_wp2_with fail
              refine wp_region_held_drew (S := fun w' => w'.cell? ⟨w.heap.size, 0, none⟩ = some (.int .i64 N) ∧ w'.cell? ⟨w.heap.size, 1, none⟩ = some (.slice A n c) ∧ w'.cell? ⟨b, o + nx, none⟩ = some (.int .i64 y) ∧ RW wr w') (by kernel_rfl) hcd (fun hHeld => ?_)
              refine wpAnyH_take (i := 0) (oi := ?oiz332x0) (v := ?vz332x0) ?hiz332x0 (by kernel_rfl) (by kernel_rfl) (by kernel_rfl) ?hQz332x0 ?hyz332x0 (by assumption) ?restz332x0
              case hiz332x0 => first | (simp only [List.getElem?_toArray, List.getElem?_cons_zero, List.getElem?_cons_succ]; rfl) | rfl
              case hQz332x0 => exact fun _ _ _ h => h
              case hyz332x0 => (refine Or.inl ⟨by rfl, ?_⟩; intro w hSw; (try dsimp only at hSw); go_simp; (try with_reducible rfl))
              simp only [Act.put, List.setIfInBounds_toArray, List.set_cons_zero, List.set_cons_succ]
              refine wpAnyH_take (i := 1) (oi := ?oiz333x1) (v := ?vz333x1) ?hiz333x1 (by kernel_rfl) (by kernel_rfl) (by kernel_rfl) ?hQz333x1 ?hyz333x1 (by assumption) ?restz333x1
              case hiz333x1 => first | (simp only [List.getElem?_toArray, List.getElem?_cons_zero, List.getElem?_cons_succ]; rfl) | rfl
              case hQz333x1 => exact fun _ _ _ h => h
              case hyz333x1 => (refine Or.inl ⟨by rfl, ?_⟩; intro w hSw; (try dsimp only at hSw); go_simp; (try with_reducible rfl))
              simp only [Act.put, List.setIfInBounds_toArray, List.set_cons_zero, List.set_cons_succ]
              refine wpAnyH_ready (rs := [2]) (by kernel_rfl) (by simp) ?_
              refine AllReadyH.cons rfl (fun K hK => ?_) AllReadyH.nil
              go_simp
              refine hK.out _ _ hcd (fun hHeld => ?_)
              clear hK K
              (try simp only [Act.put, List.setIfInBounds_toArray, List.set_cons_zero, List.set_cons_succ])
              refine wpAnyH_take (i := 3) (oi := ?oiz334x3) (v := ?vz334x3) ?hiz334x3 (by kernel_rfl) (by kernel_rfl) (by kernel_rfl) ?hQz334x3 ?hyz334x3 (by assumption) ?restz334x3
              case hiz334x3 => first | (simp only [List.getElem?_toArray, List.getElem?_cons_zero, List.getElem?_cons_succ]; rfl) | rfl
              case hQz334x3 => exact fun _ _ _ h => h
              case hyz334x3 => (refine Or.inl ⟨by rfl, ?_⟩; intro w hSw; (try dsimp only at hSw); go_simp; (try with_reducible rfl))
              simp only [Act.put, List.setIfInBounds_toArray, List.set_cons_zero, List.set_cons_succ]
              refine wpAnyH_take (i := 4) (oi := ?oiz335x4) (v := ?vz335x4) ?hiz335x4 (by kernel_rfl) (by kernel_rfl) (by kernel_rfl) ?hQz335x4 ?hyz335x4 (by assumption) ?restz335x4
              case hiz335x4 => first | (simp only [List.getElem?_toArray, List.getElem?_cons_zero, List.getElem?_cons_succ]; rfl) | rfl
              case hQz335x4 => exact fun _ _ _ h => h
              case hyz335x4 => (refine Or.inl ⟨by rfl, ?_⟩; intro w hSw; (try dsimp only at hSw); go_simp; (try with_reducible rfl))
              simp only [Act.put, List.setIfInBounds_toArray, List.set_cons_zero, List.set_cons_succ]
              refine wpAnyH_take (i := 5) (oi := ?oiz336x5) (v := ?vz336x5) ?hiz336x5 (by kernel_rfl) (by kernel_rfl) (by kernel_rfl) ?hQz336x5 ?hyz336x5 (by assumption) ?restz336x5
              case hiz336x5 => first | (simp only [List.getElem?_toArray, List.getElem?_cons_zero, List.getElem?_cons_succ]; rfl) | rfl
              case hQz336x5 => exact fun _ _ _ h => h
              case hyz336x5 => (refine Or.inl ⟨by rfl, ?_⟩; intro w hSw; (try dsimp only at hSw); go_simp; (try with_reducible rfl))
              simp only [Act.put, List.setIfInBounds_toArray, List.set_cons_zero, List.set_cons_succ]
              refine wpAnyH_take (i := 6) (oi := ?oiz337x6) (v := ?vz337x6) ?hiz337x6 (by kernel_rfl) (by kernel_rfl) (by kernel_rfl) ?hQz337x6 ?hyz337x6 (by assumption) ?restz337x6
              case hiz337x6 => first | (simp only [List.getElem?_toArray, List.getElem?_cons_zero, List.getElem?_cons_succ]; rfl) | rfl
              case hQz337x6 => exact fun _ _ _ h => h
              case hyz337x6 => (refine Or.inl ⟨by rfl, ?_⟩; intro w hSw; (try dsimp only at hSw); go_simp; (try with_reducible rfl))
              simp only [Act.put, List.setIfInBounds_toArray, List.set_cons_zero, List.set_cons_succ]
              refine wpAnyH_take (i := 7) (oi := ?oiz338x7) (v := ?vz338x7) ?hiz338x7 (by kernel_rfl) (by kernel_rfl) (by kernel_rfl) ?hQz338x7 ?hyz338x7 (by assumption) ?restz338x7
              case hiz338x7 => first | (simp only [List.getElem?_toArray, List.getElem?_cons_zero, List.getElem?_cons_succ]; rfl) | rfl
              case hQz338x7 => exact fun _ _ _ h => h
              case hyz338x7 => (refine Or.inl ⟨by rfl, ?_⟩; intro w hSw; (try dsimp only at hSw); go_simp; (try with_reducible rfl))
              simp only [Act.put, List.setIfInBounds_toArray, List.set_cons_zero, List.set_cons_succ]
              refine wpAnyH_take (i := 8) (oi := ?oiz339x8) (v := ?vz339x8) ?hiz339x8 (by kernel_rfl) (by kernel_rfl) (by kernel_rfl) ?hQz339x8 ?hyz339x8 (by assumption) ?restz339x8
              case hiz339x8 => first | (simp only [List.getElem?_toArray, List.getElem?_cons_zero, List.getElem?_cons_succ]; rfl) | rfl
              case hQz339x8 => exact fun _ _ _ h => h
              case hyz339x8 => (refine Or.inl ⟨by rfl, ?_⟩; intro w hSw; (try dsimp only at hSw); go_simp; (try with_reducible rfl))
              simp only [Act.put, List.setIfInBounds_toArray, List.set_cons_zero, List.set_cons_succ]
              refine wpAnyH_take (i := 9) (oi := ?oiz340x9) (v := ?vz340x9) ?hiz340x9 (by kernel_rfl) (by kernel_rfl) (by kernel_rfl) ?hQz340x9 ?hyz340x9 (by assumption) ?restz340x9
              case hiz340x9 => first | (simp only [List.getElem?_toArray, List.getElem?_cons_zero, List.getElem?_cons_succ]; rfl) | rfl
              case hQz340x9 => exact fun _ _ _ h => h
              case hyz340x9 => (refine Or.inl ⟨by rfl, ?_⟩; intro w hSw; (try dsimp only at hSw); go_simp; (try with_reducible rfl))
              simp only [Act.put, List.setIfInBounds_toArray, List.set_cons_zero, List.set_cons_succ]
              refine wpAnyH_take (i := 10) (oi := ?oiz341x10) (v := ?vz341x10) ?hiz341x10 (by kernel_rfl) (by kernel_rfl) (by kernel_rfl) ?hQz341x10 ?hyz341x10 (by assumption) ?restz341x10
              case hiz341x10 => first | (simp only [List.getElem?_toArray, List.getElem?_cons_zero, List.getElem?_cons_succ]; rfl) | rfl
              case hQz341x10 => exact fun _ _ _ h => h
              case hyz341x10 => (refine Or.inl ⟨by rfl, ?_⟩; intro w hSw; (try dsimp only at hSw); go_simp; (try with_reducible rfl))
              simp only [Act.put, List.setIfInBounds_toArray, List.set_cons_zero, List.set_cons_succ]
              refine wpAnyH_take (i := 11) (oi := ?oiz342x11) (v := ?vz342x11) ?hiz342x11 (by kernel_rfl) (by kernel_rfl) (by kernel_rfl) ?hQz342x11 ?hyz342x11 (by assumption) ?restz342x11
              case hiz342x11 => first | (simp only [List.getElem?_toArray, List.getElem?_cons_zero, List.getElem?_cons_succ]; rfl) | rfl
              case hQz342x11 => exact fun _ _ _ h => h
              case hyz342x11 => (refine Or.inl ⟨by rfl, ?_⟩; intro w hSw; (try dsimp only at hSw); go_simp; (try with_reducible rfl))
              simp only [Act.put, List.setIfInBounds_toArray, List.set_cons_zero, List.set_cons_succ]
              refine wpAnyH_take (i := 12) (oi := ?oiz343x12) (v := ?vz343x12) ?hiz343x12 (by kernel_rfl) (by kernel_rfl) (by kernel_rfl) ?hQz343x12 ?hyz343x12 (by assumption) ?restz343x12
              case hiz343x12 => first | (simp only [List.getElem?_toArray, List.getElem?_cons_zero, List.getElem?_cons_succ]; rfl) | rfl
              case hQz343x12 => exact fun _ _ _ h => h
              case hyz343x12 => (refine Or.inl ⟨by rfl, ?_⟩; intro w hSw; (try dsimp only at hSw); go_simp; (try with_reducible rfl))
              simp only [Act.put, List.setIfInBounds_toArray, List.set_cons_zero, List.set_cons_succ]
              refine wpAnyH_take (i := 13) (oi := ?oiz344x13) (v := ?vz344x13) ?hiz344x13 (by kernel_rfl) (by kernel_rfl) (by kernel_rfl) ?hQz344x13 ?hyz344x13 (by assumption) ?restz344x13
              case hiz344x13 => first | (simp only [List.getElem?_toArray, List.getElem?_cons_zero, List.getElem?_cons_succ]; rfl) | rfl
              case hQz344x13 => exact fun _ _ _ h => h
              case hyz344x13 => (refine Or.inl ⟨by rfl, ?_⟩; intro w hSw; (try dsimp only at hSw); go_simp; (try with_reducible rfl))
              simp only [Act.put, List.setIfInBounds_toArray, List.set_cons_zero, List.set_cons_succ]
              refine wpAnyH_ready (rs := [14]) (by kernel_rfl) (by simp) ?_
              refine AllReadyH.cons rfl (fun K hK => ?_) AllReadyH.nil
              go_simp
              go_at_call 83
              refine (HHA.out _ HED.out).mono ?_
              rintro e w9 ⟨rfl, hb9⟩
              have hcd9 := RW.three HC.out (RW.later (And.right (And.right (And.right hcd))) hb9)
              (try go_wp2_with fail)
              refine hK.out _ _ hcd9 (fun hHeld => ?_)
              clear hK K
              (try simp only [Act.put, List.setIfInBounds_toArray, List.set_cons_zero, List.set_cons_succ])
              refine wpAnyH_take (i := 15) (oi := ?oiz345x15) (v := ?vz345x15) ?hiz345x15 (by kernel_rfl) (by kernel_rfl) (by kernel_rfl) ?hQz345x15 ?hyz345x15 (by assumption) ?restz345x15
              case hiz345x15 => first | (simp only [List.getElem?_toArray, List.getElem?_cons_zero, List.getElem?_cons_succ]; rfl) | rfl
              case hQz345x15 => exact fun _ _ _ h => h
              case hyz345x15 => (refine Or.inl ⟨by rfl, ?_⟩; intro w hSw; (try dsimp only at hSw); go_simp; (try with_reducible rfl))
              simp only [Act.put, List.setIfInBounds_toArray, List.set_cons_zero, List.set_cons_succ]
              refine wpAnyH_take (i := 16) (oi := ?oiz346x16) (v := ?vz346x16) ?hiz346x16 (by kernel_rfl) (by kernel_rfl) (by kernel_rfl) ?hQz346x16 ?hyz346x16 (by assumption) ?restz346x16
              case hiz346x16 => first | (simp only [List.getElem?_toArray, List.getElem?_cons_zero, List.getElem?_cons_succ]; rfl) | rfl
              case hQz346x16 => exact fun _ _ _ h => h
              case hyz346x16 => (refine Or.inl ⟨by rfl, ?_⟩; intro w hSw; (try dsimp only at hSw); go_simp; (try with_reducible rfl))
              simp only [Act.put, List.setIfInBounds_toArray, List.set_cons_zero, List.set_cons_succ]
              refine wpAnyH_done (by kernel_rfl) ?_ _
              have hfin : RW wr w9 := And.right (And.right (And.right hcd9))
              have HR9 := Lib.hid (RW.later hrw.out hfin)
              have HS9 := Lib.hid (hse.out.later hfin)
              have HF9 := Lib.hid (bel_trans HBR.out hfin)
              clear tm1 tm2 s1 s2 hlk hcd9 hfin
              have HT : Hid (cycTo N es l (k + 1) = true) := HSUC.out _ (by rw [HAT.out]; rfl)
              go_wp2_with (at_mapUpdate; refine HS9.out.mark HXB.out (by have := HLT.out; omega) rfl _ _ _ rfl rfl rfl rfl ?_; intro w10 s10 g10)
              have HS10 : Hid (SeenM w10 w2.heap.size (k + 1) (l.take (k + 1))) := by rw [HTK.out]; exact s10
              have HR10 : Hid (RW w2 w10) := Below.grown HR9.out g10 (Below.size HR9.out) (fun q hq => by injection hq with hq; omega)
              clear s10 g10
              go_wp2_with fail
              go_roundw
              case rel => exact ⟨k + 1, by have := HLT.out; omega, by go_num, HT, HS10, HR10⟩
              case measure => have := HLT.out; simp [intOf]; omega
          · have HF : Hid (isCycB N es l = false) := HFAL.out (by rw [HAT.out]; rfl)
            have HF9 := Lib.hid (bel_trans HBR.out (RW.refl wr).drew)
            go_wp2_with fail
            refine wp_region_held_drew (S := fun w' => w'.cell? ⟨w.heap.size, 0, none⟩ = some (.int .i64 N) ∧ w'.cell? ⟨w.heap.size, 1, none⟩ = some (.slice A n c) ∧ w'.cell? ⟨b, o + nx, none⟩ = some (.int .i64 y) ∧ RW wr w') (by kernel_rfl) hcd (fun hHeld => ?_)
            refine wpAnyH_take (i := 0) (oi := ?oiz301x0) (v := ?vz301x0) ?hiz301x0 (by kernel_rfl) (by kernel_rfl) (by kernel_rfl) ?hQz301x0 ?hyz301x0 (by assumption) ?restz301x0
            case hiz301x0 => first | (simp only [List.getElem?_toArray, List.getElem?_cons_zero, List.getElem?_cons_succ]; rfl) | rfl
            case hQz301x0 => exact fun _ _ _ h => h
            case hyz301x0 => (refine Or.inl ⟨by rfl, ?_⟩; intro w hSw; (try dsimp only at hSw); go_simp; (try with_reducible rfl))
            simp only [Act.put, List.setIfInBounds_toArray, List.set_cons_zero, List.set_cons_succ]
            refine wpAnyH_take (i := 1) (oi := ?oiz302x1) (v := ?vz302x1) ?hiz302x1 (by kernel_rfl) (by kernel_rfl) (by kernel_rfl) ?hQz302x1 ?hyz302x1 (by assumption) ?restz302x1
            case hiz302x1 => first | (simp only [List.getElem?_toArray, List.getElem?_cons_zero, List.getElem?_cons_succ]; rfl) | rfl
            case hQz302x1 => exact fun _ _ _ h => h
            case hyz302x1 => (refine Or.inl ⟨by rfl, ?_⟩; intro w hSw; (try dsimp only at hSw); go_simp; (try with_reducible rfl))
            simp only [Act.put, List.setIfInBounds_toArray, List.set_cons_zero, List.set_cons_succ]
            refine wpAnyH_ready (rs := [2]) (by kernel_rfl) (by simp) ?_
            refine AllReadyH.cons rfl (fun K hK => ?_) AllReadyH.nil
            go_simp
            refine hK.out _ _ hcd (fun hHeld => ?_)
            clear hK K
            (try simp only [Act.put, List.setIfInBounds_toArray, List.set_cons_zero, List.set_cons_succ])
            refine wpAnyH_take (i := 3) (oi := ?oiz303x3) (v := ?vz303x3) ?hiz303x3 (by kernel_rfl) (by kernel_rfl) (by kernel_rfl) ?hQz303x3 ?hyz303x3 (by assumption) ?restz303x3
            case hiz303x3 => first | (simp only [List.getElem?_toArray, List.getElem?_cons_zero, List.getElem?_cons_succ]; rfl) | rfl
            case hQz303x3 => exact fun _ _ _ h => h
            case hyz303x3 => (refine Or.inl ⟨by rfl, ?_⟩; intro w hSw; (try dsimp only at hSw); go_simp; (try with_reducible rfl))
            simp only [Act.put, List.setIfInBounds_toArray, List.set_cons_zero, List.set_cons_succ]
            refine wpAnyH_take (i := 4) (oi := ?oiz304x4) (v := undef) ?hiz304x4 (by kernel_rfl) (by kernel_rfl) (by kernel_rfl) ?hQz304x4 ?hyz304x4 (by assumption) ?restz304x4
            case hiz304x4 => first | (simp only [List.getElem?_toArray, List.getElem?_cons_zero, List.getElem?_cons_succ]; rfl) | rfl
            case hQz304x4 => exact fun _ _ _ h => h
            case hyz304x4 => exact Or.inr ⟨by rfl, rfl⟩
            simp only [Act.put, List.setIfInBounds_toArray, List.set_cons_zero, List.set_cons_succ]
            refine wpAnyH_take (i := 5) (oi := ?oiz305x5) (v := undef) ?hiz305x5 (by kernel_rfl) (by kernel_rfl) (by kernel_rfl) ?hQz305x5 ?hyz305x5 (by assumption) ?restz305x5
            case hiz305x5 => first | (simp only [List.getElem?_toArray, List.getElem?_cons_zero, List.getElem?_cons_succ]; rfl) | rfl
            case hQz305x5 => exact fun _ _ _ h => h
            case hyz305x5 => exact Or.inr ⟨by rfl, rfl⟩
            simp only [Act.put, List.setIfInBounds_toArray, List.set_cons_zero, List.set_cons_succ]
            refine wpAnyH_take (i := 6) (oi := ?oiz306x6) (v := undef) ?hiz306x6 (by kernel_rfl) (by kernel_rfl) (by kernel_rfl) ?hQz306x6 ?hyz306x6 (by assumption) ?restz306x6
            case hiz306x6 => first | (simp only [List.getElem?_toArray, List.getElem?_cons_zero, List.getElem?_cons_succ]; rfl) | rfl
            case hQz306x6 => exact fun _ _ _ h => h
            case hyz306x6 => exact Or.inr ⟨by rfl, rfl⟩
            simp only [Act.put, List.setIfInBounds_toArray, List.set_cons_zero, List.set_cons_succ]
            refine wpAnyH_take (i := 7) (oi := ?oiz307x7) (v := undef) ?hiz307x7 (by kernel_rfl) (by kernel_rfl) (by kernel_rfl) ?hQz307x7 ?hyz307x7 (by assumption) ?restz307x7
            case hiz307x7 => first | (simp only [List.getElem?_toArray, List.getElem?_cons_zero, List.getElem?_cons_succ]; rfl) | rfl
            case hQz307x7 => exact fun _ _ _ h => h
            case hyz307x7 => exact Or.inr ⟨by rfl, rfl⟩
            simp only [Act.put, List.setIfInBounds_toArray, List.set_cons_zero, List.set_cons_succ]
            refine wpAnyH_take (i := 8) (oi := ?oiz308x8) (v := undef) ?hiz308x8 (by kernel_rfl) (by kernel_rfl) (by kernel_rfl) ?hQz308x8 ?hyz308x8 (by assumption) ?restz308x8
            case hiz308x8 => first | (simp only [List.getElem?_toArray, List.getElem?_cons_zero, List.getElem?_cons_succ]; rfl) | rfl
            case hQz308x8 => exact fun _ _ _ h => h
            case hyz308x8 => exact Or.inr ⟨by rfl, rfl⟩
            simp only [Act.put, List.setIfInBounds_toArray, List.set_cons_zero, List.set_cons_succ]
            refine wpAnyH_take (i := 9) (oi := ?oiz309x9) (v := undef) ?hiz309x9 (by kernel_rfl) (by kernel_rfl) (by kernel_rfl) ?hQz309x9 ?hyz309x9 (by assumption) ?restz309x9
            case hiz309x9 => first | (simp only [List.getElem?_toArray, List.getElem?_cons_zero, List.getElem?_cons_succ]; rfl) | rfl
            case hQz309x9 => exact fun _ _ _ h => h
            case hyz309x9 => exact Or.inr ⟨by rfl, rfl⟩
            simp only [Act.put, List.setIfInBounds_toArray, List.set_cons_zero, List.set_cons_succ]
            refine wpAnyH_take (i := 10) (oi := ?oiz310x10) (v := undef) ?hiz310x10 (by kernel_rfl) (by kernel_rfl) (by kernel_rfl) ?hQz310x10 ?hyz310x10 (by assumption) ?restz310x10
            case hiz310x10 => first | (simp only [List.getElem?_toArray, List.getElem?_cons_zero, List.getElem?_cons_succ]; rfl) | rfl
            case hQz310x10 => exact fun _ _ _ h => h
            case hyz310x10 => exact Or.inr ⟨by rfl, rfl⟩
            simp only [Act.put, List.setIfInBounds_toArray, List.set_cons_zero, List.set_cons_succ]
            refine wpAnyH_take (i := 11) (oi := ?oiz311x11) (v := undef) ?hiz311x11 (by kernel_rfl) (by kernel_rfl) (by kernel_rfl) ?hQz311x11 ?hyz311x11 (by assumption) ?restz311x11
            case hiz311x11 => first | (simp only [List.getElem?_toArray, List.getElem?_cons_zero, List.getElem?_cons_succ]; rfl) | rfl
            case hQz311x11 => exact fun _ _ _ h => h
            case hyz311x11 => exact Or.inr ⟨by rfl, rfl⟩
            simp only [Act.put, List.setIfInBounds_toArray, List.set_cons_zero, List.set_cons_succ]
            refine wpAnyH_take (i := 12) (oi := ?oiz312x12) (v := undef) ?hiz312x12 (by kernel_rfl) (by kernel_rfl) (by kernel_rfl) ?hQz312x12 ?hyz312x12 (by assumption) ?restz312x12
            case hiz312x12 => first | (simp only [List.getElem?_toArray, List.getElem?_cons_zero, List.getElem?_cons_succ]; rfl) | rfl
            case hQz312x12 => exact fun _ _ _ h => h
            case hyz312x12 => exact Or.inr ⟨by rfl, rfl⟩
            simp only [Act.put, List.setIfInBounds_toArray, List.set_cons_zero, List.set_cons_succ]
            refine wpAnyH_take (i := 13) (oi := ?oiz313x13) (v := undef) ?hiz313x13 (by kernel_rfl) (by kernel_rfl) (by kernel_rfl) ?hQz313x13 ?hyz313x13 (by assumption) ?restz313x13
            case hiz313x13 => first | (simp only [List.getElem?_toArray, List.getElem?_cons_zero, List.getElem?_cons_succ]; rfl) | rfl
            case hQz313x13 => exact fun _ _ _ h => h
            case hyz313x13 => exact Or.inr ⟨by rfl, rfl⟩
            simp only [Act.put, List.setIfInBounds_toArray, List.set_cons_zero, List.set_cons_succ]
            refine wpAnyH_take (i := 14) (oi := ?oiz314x14) (v := undef) ?hiz314x14 (by kernel_rfl) (by kernel_rfl) (by kernel_rfl) ?hQz314x14 ?hyz314x14 (by assumption) ?restz314x14
            case hiz314x14 => first | (simp only [List.getElem?_toArray, List.getElem?_cons_zero, List.getElem?_cons_succ]; rfl) | rfl
            case hQz314x14 => exact fun _ _ _ h => h
            case hyz314x14 => exact Or.inr ⟨by rfl, rfl⟩
            simp only [Act.put, List.setIfInBounds_toArray, List.set_cons_zero, List.set_cons_succ]
            refine wpAnyH_take (i := 15) (oi := ?oiz315x15) (v := undef) ?hiz315x15 (by kernel_rfl) (by kernel_rfl) (by kernel_rfl) ?hQz315x15 ?hyz315x15 (by assumption) ?restz315x15
            case hiz315x15 => first | (simp only [List.getElem?_toArray, List.getElem?_cons_zero, List.getElem?_cons_succ]; rfl) | rfl
            case hQz315x15 => exact fun _ _ _ h => h
            case hyz315x15 => exact Or.inr ⟨by rfl, rfl⟩
            simp only [Act.put, List.setIfInBounds_toArray, List.set_cons_zero, List.set_cons_succ]
            refine wpAnyH_take (i := 16) (oi := ?oiz316x16) (v := ?vz316x16) ?hiz316x16 (by kernel_rfl) (by kernel_rfl) (by kernel_rfl) ?hQz316x16 ?hyz316x16 (by assumption) ?restz316x16
            case hiz316x16 => first | (simp only [List.getElem?_toArray, List.getElem?_cons_zero, List.getElem?_cons_succ]; rfl) | rfl
            case hQz316x16 => exact fun _ _ _ h => h
            case hyz316x16 => (refine Or.inl ⟨by rfl, ?_⟩; intro w hSw; (try dsimp only at hSw); go_simp; (try with_reducible rfl))
            simp only [Act.put, List.setIfInBounds_toArray, List.set_cons_zero, List.set_cons_succ]
            refine wpAnyH_done (by kernel_rfl) ?_ _
            clear tm1 tm2 s1 s2 hlk hcd
            go_wp2_with fail
            go_ret
            exact ⟨by rw [HF.out]; rfl, HF9.out⟩
        · obtain rfl : k = m := by omega
          have hd : decide ((k : Int) < (k : Int)) = false := by rw [decide_eq_false_iff_not]; omega
          clear hlt hk
          go_wp2_with fail
          go_ret
          exact ⟨by rw [HTO.out, hto.out]; rfl, HBR.out⟩

end Go.Proofs.Ytnldfjoadmehcaa
