/- The walk of the statement MatesEdges. -/
import Derived.Test.YtnldfjoadmehcaaMBack
set_option linter.unusedVariables false
set_option linter.unusedSimpArgs false
namespace Go.Proofs.Ytnldfjoadmehcaa
open Go.RowKit

set_option maxHeartbeats 16000000 in
set_option maxRecDepth 100000 in
theorem matesEdges_any {A B : Option Addr} {n c m d : Nat} {zs ps : List Int} (k at1 : Int) (w0 : World) (h : ReadI w0 A n zs) (hp : ReadI w0 B m ps) :
    Calls Try.prog 11 #[.int .i64 k, .slice A n c, .slice B m d, .int .i64 at1] w0 fun e w' => e = .returned (.bool true) ∧ Below w0.heap.size w0 w' := by
  have HAW : Hid (∀ W, Calls Try.prog 46 #[] W fun e w' => e = .returned (.bool true) ∧ Below W.heap.size W w') := fun W => awake8_any W
  have hsm := small_open (c := c) k 16 40 w0 h (by decide) (by decide)
  have HP := Lib.hid hp
  clear h hp
  go_enter Try.func11, Try.ntmps11
  go_wp2_with fail
  refine hsm.mono ?_
  rintro e w1 ⟨M, l1, k1, A1, es, rfl, hMV, hEE, hR, hrd, hlk, hb1⟩
  have HRB := Lib.hid hR
  have HRI := Lib.hid (rightB_iff.1 hR).2.2.2
  have HB2 := Lib.hid (bel_trans hb1 (bel_alloc w1 (gcells M A1 l1 k1)))
  have HX := Lib.hid (boxg w1 M A1 l1 k1)
  have HE := Lib.hid (hrd.below (bel_alloc w1 (gcells M A1 l1 k1)))
  have HM : Hid (M ≤ 16) := by unfold Hid; omega
  have HL : Hid (l1 ≤ 40) := by have := hrd.1; unfold Hid; omega
  clear hsm hR hrd hb1 hEE hMV hlk
  obtain ⟨x0, x1⟩ := HX.out
  go_wp2_with fail
  clear x0 x1
  generalize w1.alloc (gcells M A1 l1 k1) = w2 at *
  refine (pmates_any (c := k1) (d := d) w2 HE.out HRB.out (HP.out.below HB2.out)).mono ?_
  rintro e w3 ⟨v3, ms, rfl, o3, hmt, hb3⟩
  obtain ⟨A3, c3, rfl, -, -, hr3⟩ := OwnI.read o3
  have hlm : ms.length = M := hmt.1
  rw [hlm] at hr3 ⊢
  have HR3 := Lib.hid hr3
  have HMT := Lib.hid hmt
  have HX3 := Lib.hid (later2 hb3 HX.out)
  have HE3 := Lib.hid (HE.out.below hb3)
  have HB3 := Lib.hid (bel_trans HB2.out hb3)
  clear o3 hr3 hmt hb3 hlm
  go_wp2_with fail
  refine (medges_any (c := c3) w3 HR3.out (by have := HM.out; omega)).mono ?_
  rintro e w4 ⟨v4, rfl, o4, hb4⟩
  obtain ⟨A4, c4, rfl, -, -, hr4⟩ := OwnE.read o4
  have HR4 := Lib.hid hr4
  have HR34 := Lib.hid (HR3.out.below hb4)
  have HX4 := Lib.hid (later2 hb4 HX3.out)
  have HE4 := Lib.hid (HE3.out.below hb4)
  have HB4 := Lib.hid (bel_trans HB3.out hb4)
  clear o4 hr4 hb4
  go_wp2_with fail
  refine (HAW.out _).mono ?_
  rintro e w5 ⟨rfl, hb5⟩
  have HR5 := Lib.hid (HR4.out.below hb5)
  have HRM5 := Lib.hid (HR34.out.below hb5)
  have HX5 := Lib.hid (later2 hb5 HX4.out)
  have HE5 := Lib.hid (HE4.out.below hb5)
  have HB5 := Lib.hid (bel_trans HB4.out hb5)
  obtain ⟨x0, x1⟩ := HX5.out
  clear hb5
  by_cases hl0 : l1 = 0
  · subst hl0
    go_wp2_with fail
    refine (HAW.out _).mono ?_
    rintro e w6 ⟨rfl, hb⟩
    have HF := Lib.hid (bel_trans HB5.out hb)
    clear hb x0 x1
    go_wp2_with fail
    go_ret
    exact ⟨rfl, HF.out⟩
  · have hlp : 0 < l1 := by omega
    have hl40 : l1 ≤ 40 := HL.out
    have hl1 : ((l1 : Int) == 0) = false := by simp; omega
    obtain ⟨q, hqn, hq⟩ := idx_of at1 l1 hlp (by omega)
    obtain ⟨b, o, rfl, hc⟩ := HE5.out.2.2 hlp
    obtain ⟨hc1, hc2⟩ := hc q hqn
    have hke : q < es.length := by have := HE5.out.1; omega
    obtain ⟨x, y, he, hxy, hyM⟩ := edge_nat (HRI.out.1 _ (show ge es q ∈ es by rw [ge_get hke]; exact List.getElem_mem _))
    have HMEM : Hid (((x : Int), (y : Int)) ∈ es) := by rw [← he, ge_get hke]; exact List.getElem_mem _
    rw [he] at hc1 hc2
    simp only [] at hc1 hc2
    have hxM : x < M := by omega
    have HXY := Lib.hid (And.intro hxM (And.intro hyM hxy))
    have hqi : (0 : Int) ≤ (q : Int) ∧ (q : Int) < (l1 : Int) := by omega
    have um : IntKind.u64.wrap (l1 : Int) = (l1 : Int) := by rw [IntKind.wrap_u64]; omega
    have uq : IntKind.u64.wrap (q : Int) = (q : Int) := by rw [IntKind.wrap_u64]; omega
    have iq : IntKind.i64.wrap (q : Int) = (q : Int) := by rw [IntKind.wrap_i64]; omega
    have hxi : (0 : Int) ≤ (x : Int) ∧ (x : Int) < (M : Int) := by omega
    have hyi : (0 : Int) ≤ (y : Int) ∧ (y : Int) < (M : Int) := by omega
    clear hc he hke hxy hlp
    go_wp2_with fail
    have HSS : Hid (w5.cell? ⟨w1.heap.size, 1, none⟩ = some (.slice (some ⟨b, o, none⟩) l1 k1) ∧ w5.cell? ⟨b, o + q * 2, none⟩ = some (.int .i64 (x : Int)) ∧ w5.cell? ⟨b, o + q * 2 + 1, none⟩ = some (.int .i64 (y : Int))) := ⟨x1, hc1, hc2⟩
    go_region_held3 (fun w' => w'.cell? ⟨w1.heap.size, 1, none⟩ = some (.slice (some ⟨b, o, none⟩) l1 k1) ∧ w'.cell? ⟨b, o + q * 2, none⟩ = some (.int .i64 (x : Int)) ∧ w'.cell? ⟨b, o + q * 2 + 1, none⟩ = some (.int .i64 (y : Int)) ∧ RW w5 w')
      (first | assumption | exact RW.three HSS.out (RW.refl w5).drew | exact RW.three HSS.out (RW.alloc (RW.refl w5).drew _) | exact RW.three HSS.out (RW.alloc (RW.refl w5) _).drew | fail) (fail)
    have HD6 : Hid (RW w5 (w5.alloc (.cells #[.int .i64 (x : Int), .int .i64 (y : Int)] 41)).drew) := (RW.alloc (RW.refl w5) _).drew
    have HXE : Hid ((w5.alloc (.cells #[.int .i64 (x : Int), .int .i64 (y : Int)] 41)).drew.cell? ⟨w5.heap.size, 0, none⟩ = some (.int .i64 (x : Int)) ∧ (w5.alloc (.cells #[.int .i64 (x : Int), .int .i64 (y : Int)] 41)).drew.cell? ⟨w5.heap.size, 1, none⟩ = some (.int .i64 (y : Int))) := ⟨(cell_blk (heap_alloc_new w5 _) 0).trans rfl, (cell_blk (heap_alloc_new w5 _) 1).trans rfl⟩
    clear x0 x1 hc1 hc2 um uq iq hq hl1 hqi hqn hyM hl0
    generalize (w5.alloc (.cells #[.int .i64 (x : Int), .int .i64 (y : Int)] 41)).drew = w6 at *
    have HC6 : Hid (w6.cell? ⟨w1.heap.size, 0, none⟩ = some (.int .i64 M) ∧ w6.cell? ⟨w1.heap.size, 1, none⟩ = some (.slice (some ⟨b, o, none⟩) l1 k1) ∧ w6.cell? ⟨w5.heap.size, 0, none⟩ = some (.int .i64 (x : Int)) ∧ w6.cell? ⟨w5.heap.size, 1, none⟩ = some (.int .i64 (y : Int))) := ⟨cell_later HD6.out HX5.out.1, cell_later HD6.out HX5.out.2, HXE.out.1, HXE.out.2⟩
    have HR6 := Lib.hid (HR5.out.below HD6.out)
    have HRM6 := Lib.hid (HRM5.out.below HD6.out)
    have HE6 := Lib.hid (HE5.out.below HD6.out)
    have HB6 := Lib.hid (bel_trans HB5.out HD6.out)
    have HLN : Hid ((edgesM ms).length ≤ 16) := by
      have := match_count HRI.out HMT.out
      have := HM.out
      unfold Hid
      omega
    obtain ⟨p, hp⟩ : ∃ p, p = gi ms x := ⟨_, rfl⟩
    obtain ⟨r, hr⟩ : ∃ r, r = gi ms y := ⟨_, rfl⟩
    have HPR := Lib.hid (And.intro hp hr)
    clear hp hr
    by_cases hbad : 0 ≤ gi ms x ∨ 0 ≤ gi ms y
    · have HBP : Hid (0 ≤ p ∨ 0 ≤ r) := by rw [HPR.out.1, HPR.out.2]; exact hbad
      have HMO : Hid (∀ W B' d', RW w6 W → ReadE W B' ((edgesM ms).length + 1) (edgesM ms ++ [((x : Int), (y : Int))]) → Calls Try.prog 49 #[.agg #[.int .i64 M, .slice (some ⟨b, o, none⟩) l1 k1], .slice B' ((edgesM ms).length + 1) d'] W (OfQ ([], 9) W)) := fun W B' d' r hr => by
        have := mof_any (c := k1) (d := d') (M : Int) W (HE6.out.below r) hr
        rw [of_more HRB.out HMT.out HMEM.out, if_pos hbad] at this
        exact this
      go_wp2_with fail
      go_region_held3 (fun w' => w'.cell? ⟨w1.heap.size, 0, none⟩ = some (.int .i64 M) ∧ w'.cell? ⟨w1.heap.size, 1, none⟩ = some (.slice (some ⟨b, o, none⟩) l1 k1) ∧ w'.cell? ⟨w5.heap.size, 0, none⟩ = some (.int .i64 (x : Int)) ∧ w'.cell? ⟨w5.heap.size, 1, none⟩ = some (.int .i64 (y : Int)) ∧ RW w6 w')
        (first | assumption | exact RW.four HC6.out (RW.refl w6).drew | exact RW.four HC6.out (RW.later (And.right (And.right (And.right (And.right (by assumption))))) hb13) | exact RW.four HC6.out (RW.grown (And.right (And.right (And.right (And.right (by assumption))))) g12 (row_base own1)) | exact RW.four HC6.out (RW.grown (And.right (And.right (And.right (And.right (by assumption))))) g11 (by intro k hk; simp [Value.ownBlock] at hk)) | exact RW.four HC6.out (RW.alloc (And.right (And.right (And.right (And.right (by assumption))))) _) | exact RW.four HC6.out (RW.alloc (RW.refl w6) _).drew | fail)
        (first
          | (go_at_call 49; refine (HMO.out _ _ _ (And.right (And.right (And.right (And.right (by assumption))))) rd12).mono ?_; rintro e w13 ⟨v13, rfl, own13, hb13⟩; obtain ⟨A13, c13, rfl, -, -, rd13⟩ := OwnI.read own13)
          | (refine step_appE w6.heap.size (by rfl) _ _ (by rfl) (.slice none 0 0) [] (edgesM ms) (by rfl) (OwnE.nil _ _) (Below.size (And.right (And.right (And.right (And.right (by assumption)))))) A4 (edgesM ms).length c4 (by rfl) (HR6.out.below (And.right (And.right (And.right (And.right (by assumption)))))) (by have := HLN.out; simp only [List.nil_append, List.length_append, List.length_cons, List.length_nil]; omega) ?_; intro v1 w11 own1 g11 hat1; try (first | have bx1 := ReadE.grown (ReadE.box1 _ (x : Int) (y : Int) _) g11 (by intro b' o' e'; simp [Value.ownBlock]) | have bx1 := ReadE.grown (ReadE.box1d _ (x : Int) (y : Int) _) g11 (by intro b' o' e'; simp [Value.ownBlock])))
          | (refine step_appE w6.heap.size (by rfl) _ _ (by rfl) v1 ([] ++ edgesM ms) [((x : Int), (y : Int))] (by rfl) (by first | exact own1 | exact own_alloc own1 _) (Below.size (And.right (And.right (And.right (And.right (by assumption)))))) _ 1 1 (by rfl) (by first | exact ReadE.box1 _ (x : Int) (y : Int) _ | exact bx1) (by have := HLN.out; simp only [List.nil_append, List.length_append, List.length_cons, List.length_nil]; omega) ?_; intro v2 w12 own2 g12 hat2; obtain ⟨A12, c12, rfl, -, -, rd12⟩ := OwnE.read own2; simp only [List.nil_append, List.length_append, List.length_cons, List.length_nil, Nat.zero_add] at rd12 ⊢)
          | fail)
      all_goals
        have hrw13 : RW w6 w13 := And.right (And.right (And.right (And.right (by assumption))))
        have HB13 := Lib.hid (bel_trans HB6.out hrw13)
        have HRM13 := Lib.hid (HRM6.out.below hrw13)
        have HE13 := Lib.hid (HE6.out.below hrw13)
        have HRD13 := Lib.hid rd13
        obtain ⟨z0, z1, z2, z3, -⟩ := RW.four HC6.out hrw13
        obtain ⟨b3, o3, rfl, hcm⟩ := HRM13.out.2.2 (by have := HXY.out; omega)
        have hmx := hcm x HXY.out.1
        have hmy := hcm y HXY.out.2.1
        clear own13 rd13 hrw13 hcm
        rw [← HPR.out.1] at hmx
        rw [← HPR.out.2] at hmy
        clear hbad
        by_cases q1 : 0 ≤ p
        · have d1 : decide (0 ≤ p) = true := decide_eq_true q1
          clear q1
          simp only [List.length_nil] at *
          go_wp2_with fail
          go_ret
          exact ⟨rfl, HB13.out⟩
        · have d1 : decide (0 ≤ p) = false := decide_eq_false q1
          have d2 : decide (0 ≤ r) = true := decide_eq_true (by have := HBP.out; omega)
          clear q1
          simp only [List.length_nil] at *
          go_wp2_with fail
          go_ret
          exact ⟨rfl, HB13.out⟩
    · have hb2 : ¬ 0 ≤ gi ms x ∧ ¬ 0 ≤ gi ms y := by omega
      have HBP : Hid (¬ 0 ≤ p ∧ ¬ 0 ≤ r) := by rw [HPR.out.1, HPR.out.2]; exact hb2
      have hms := more_size HRB.out HMT.out HMEM.out hb2.1 hb2.2
      have HMS := Lib.hid hms
      clear hb2 hms
      have HMO : Hid (∀ W B' d', RW w6 W → ReadE W B' ((edgesM ms).length + 1) (edgesM ms ++ [((x : Int), (y : Int))]) → Calls Try.prog 49 #[.agg #[.int .i64 M, .slice (some ⟨b, o, none⟩) l1 k1], .slice B' ((edgesM ms).length + 1) d'] W (OfQ ((ms.set x (y : Int)).set y (x : Int), 0) W)) := fun W B' d' r hr => by
        have := mof_any (c := k1) (d := d') (M : Int) W (HE6.out.below r) hr
        rw [of_more HRB.out HMT.out HMEM.out, if_neg hbad] at this
        exact this
      go_wp2_with fail
      go_region_held3 (fun w' => w'.cell? ⟨w1.heap.size, 0, none⟩ = some (.int .i64 M) ∧ w'.cell? ⟨w1.heap.size, 1, none⟩ = some (.slice (some ⟨b, o, none⟩) l1 k1) ∧ w'.cell? ⟨w5.heap.size, 0, none⟩ = some (.int .i64 (x : Int)) ∧ w'.cell? ⟨w5.heap.size, 1, none⟩ = some (.int .i64 (y : Int)) ∧ RW w6 w')
        (first | assumption | exact RW.four HC6.out (RW.refl w6).drew | exact RW.four HC6.out (RW.later (And.right (And.right (And.right (And.right (by assumption))))) hb13) | exact RW.four HC6.out (RW.grown (And.right (And.right (And.right (And.right (by assumption))))) g12 (row_base own1)) | exact RW.four HC6.out (RW.grown (And.right (And.right (And.right (And.right (by assumption))))) g11 (by intro k hk; simp [Value.ownBlock] at hk)) | exact RW.four HC6.out (RW.alloc (And.right (And.right (And.right (And.right (by assumption))))) _) | exact RW.four HC6.out (RW.alloc (RW.refl w6) _).drew | fail)
        (first
          | (go_at_call 49; refine (HMO.out _ _ _ (And.right (And.right (And.right (And.right (by assumption))))) rd12).mono ?_; rintro e w13 ⟨v13, rfl, own13, hb13⟩; obtain ⟨A13, c13, rfl, -, -, rd13⟩ := OwnI.read own13)
          | (refine step_appE w6.heap.size (by rfl) _ _ (by rfl) (.slice none 0 0) [] (edgesM ms) (by rfl) (OwnE.nil _ _) (Below.size (And.right (And.right (And.right (And.right (by assumption)))))) A4 (edgesM ms).length c4 (by rfl) (HR6.out.below (And.right (And.right (And.right (And.right (by assumption)))))) (by have := HLN.out; simp only [List.nil_append, List.length_append, List.length_cons, List.length_nil]; omega) ?_; intro v1 w11 own1 g11 hat1; try (first | have bx1 := ReadE.grown (ReadE.box1 _ (x : Int) (y : Int) _) g11 (by intro b' o' e'; simp [Value.ownBlock]) | have bx1 := ReadE.grown (ReadE.box1d _ (x : Int) (y : Int) _) g11 (by intro b' o' e'; simp [Value.ownBlock])))
          | (refine step_appE w6.heap.size (by rfl) _ _ (by rfl) v1 ([] ++ edgesM ms) [((x : Int), (y : Int))] (by rfl) (by first | exact own1 | exact own_alloc own1 _) (Below.size (And.right (And.right (And.right (And.right (by assumption)))))) _ 1 1 (by rfl) (by first | exact ReadE.box1 _ (x : Int) (y : Int) _ | exact bx1) (by have := HLN.out; simp only [List.nil_append, List.length_append, List.length_cons, List.length_nil]; omega) ?_; intro v2 w12 own2 g12 hat2; obtain ⟨A12, c12, rfl, -, -, rd12⟩ := OwnE.read own2; simp only [List.nil_append, List.length_append, List.length_cons, List.length_nil, Nat.zero_add] at rd12 ⊢)
          | fail)
      all_goals
        have hrw13 : RW w6 w13 := And.right (And.right (And.right (And.right (by assumption))))
        have HB13 := Lib.hid (bel_trans HB6.out hrw13)
        have HRM13 := Lib.hid (HRM6.out.below hrw13)
        have HE13 := Lib.hid (HE6.out.below hrw13)
        have HRD13 := Lib.hid rd13
        obtain ⟨z0, z1, z2, z3, -⟩ := RW.four HC6.out hrw13
        obtain ⟨b3, o3, rfl, hcm⟩ := HRM13.out.2.2 (by have := HXY.out; omega)
        have hmx := hcm x HXY.out.1
        have hmy := hcm y HXY.out.2.1
        clear own13 rd13 hrw13 hcm
        rw [← HPR.out.1] at hmx
        rw [← HPR.out.2] at hmy
        clear hbad
        have d1 : decide (0 ≤ p) = false := decide_eq_false (by have := HBP.out; omega)
        have d2 : decide (0 ≤ r) = false := decide_eq_false (by have := HBP.out; omega)
        have hlm : ((ms.set x (y : Int)).set y (x : Int)).length = M := HMS.out.1.1
        have HRR := Lib.hid (rright_any (c := k1) (d := c13) (M : Int) w13 HE13.out HRD13.out)
        rw [rightM_iff.2 ⟨HRB.out, HMS.out.1⟩] at HRR
        rw [hlm] at HRD13 HRR
        rw [HMT.out.1]
        clear hlm
        have hrr := HRR.out
        go_wp2_with fail
        refine hrr.mono ?_
        rintro e w14 ⟨rfl, hb14⟩
        have HB14 := Lib.hid (bel_trans HB13.out hb14)
        have hsz := msize_any (c := c13) w14 (HRD13.out.below hb14) (by have := HM.out; omega)
        rw [HMS.out.2] at hsz
        have hln : (edgesM ms).length ≤ 16 := HLN.out
        clear hrr hb14 HRR z0 z1 z2 z3 hmx hmy
        go_wp2_with fail
        refine hsz.mono ?_
        rintro e w15 ⟨rfl, hb15⟩
        have HB15 := Lib.hid (bel_trans HB14.out hb15)
        clear hsz hb15
        push_cast
        go_wp2_with fail
        go_ret
        exact ⟨rfl, HB15.out⟩

theorem matesEdges_walk {A B : Option Addr} {n c m d : Nat} {zs ps : List Int} (k at1 : Int) (w : World) (_ : -9223372036854775808 ≤ k ∧ k ≤ 9223372036854775807) (h : ReadI w A n zs) (hp : ReadI w B m ps) (_ : -9223372036854775808 ≤ at1 ∧ at1 ≤ 9223372036854775807) :
    Calls Try.prog 11 #[.int .i64 k, .slice A n c, .slice B m d, .int .i64 at1] w fun e w' => e = .returned (.bool true) ∧ Below w.heap.size w w' := matesEdges_any k at1 w h hp

end Go.Proofs.Ytnldfjoadmehcaa
