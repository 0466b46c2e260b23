/- The walk of the statement GreedyBeside. -/
import Derived.Test.YtnldfjoadmehcaaAwake10
import Derived.Test.YtnldfjoadmehcaaBeside
set_option linter.unusedVariables false
set_option linter.unusedSimpArgs false
namespace Go.Proofs.Ytnldfjoadmehcaa
open Go.RowKit

/-- A graph that Small makes. -/
theorem small_open {A : Option Addr} {n c : Nat} {zs : List Int} (N V E : Int) (w : World) (h : ReadI w A n zs) (hV : 0 ≤ V ∧ V ≤ 1000) (hE : 0 ≤ E ∧ E ≤ 1000) :
    Calls Try.prog 18 #[.int .i64 N, .slice A n c, .int .i64 V, .int .i64 E] w fun e w' => ∃ (M l k : Nat) (B : Option Addr) (es : List Ed), e = .returned (.agg #[.int .i64 M, .slice B l k]) ∧ (M : Int) ≤ V ∧ (es.length : Int) ≤ E ∧ rightB M es = true ∧ ReadE w' B l es ∧ l ≤ k ∧ Below w.heap.size w w' :=
  (small_any (c := c) N V E w h hV hE).mono fun e w' ⟨g, m, es, he, h0, h1, h2, h3, v, hg, ho, hb⟩ => by
    obtain ⟨B, k, hv, hk, -, hr⟩ := OwnE.read ho
    refine ⟨m.toNat, es.length, k, B, es, ?_, by omega, by omega, ?_, hr, hk, hb⟩
    · rw [he, hg, hv, Int.toNat_of_nonneg h0]
    · rw [Int.toNat_of_nonneg h0]
      exact h3
theorem firstL_length {N : Nat} {es : List Ed} (h : rightB N es = true) : (firstL N es).length = N := by
  unfold firstL
  rw [h, if_pos rfl, firstTo_length, Int.toNat_natCast]

set_option maxHeartbeats 16000000 in
set_option maxRecDepth 100000 in
theorem greedyBeside_any {A B : Option Addr} {n c m d : Nat} {zs ys : List Int} (k1 k2 : Int) (w0 : World) (h : ReadI w0 A n zs) (hp : ReadI w0 B m ys) :
    Calls Try.prog 9 #[.int .i64 k1, .int .i64 k2, .slice A n c, .slice B m d] w0 fun e w' => e = .returned (.bool true) ∧ Below w0.heap.size w0 w' := by
  have HAW : Hid (∀ W, Calls Try.prog 36 #[] W fun e w' => e = .returned (.bool true) ∧ Below W.heap.size W w') := fun W => awake10_any W
  have hsm := small_open (c := c) k1 20 40 w0 h (by decide) (by decide)
  have HP := Lib.hid hp
  clear h hp
  go_enter Try.func9, Try.ntmps9
  go_wp2_with fail
  refine hsm.mono ?_
  rintro e w1 ⟨N, l1, q1, A1, es, rfl, hNV, hEE, hR, hrd, hlk, hb1⟩
  have HRB := Lib.hid hR
  have HE1 := Lib.hid hrd
  have HB1 := Lib.hid hb1
  have HN : Hid (N ≤ 20 ∧ es.length ≤ 40) := by unfold Hid; omega
  clear hsm hR hrd hb1 hEE hNV hlk
  have hsm := small_open (c := d) k2 20 40 w1 (HP.out.below HB1.out) (by decide) (by decide)
  go_wp2_with fail
  refine hsm.mono ?_
  rintro e w2 ⟨K, l2, q2, A2, fs, rfl, hNV, hEE, hR, hrd, hlk, hb2⟩
  have HKB := Lib.hid hR
  have HF2 := Lib.hid hrd
  have HE2 := Lib.hid (HE1.out.below hb2)
  have HB2 := Lib.hid (bel_trans HB1.out hb2)
  have HK : Hid (K ≤ 20 ∧ fs.length ≤ 40) := by unfold Hid; omega
  clear hsm hR hrd hb2 hEE hNV hlk
  go_wp2_with fail
  have hb3 : Below w2.heap.size w2 ((w2.alloc (gcells N A1 l1 q1)).alloc (gcells K A2 l2 q2)) := bel_trans (bel_alloc _ _) (bel_alloc _ _)
  have HX1 := Lib.hid (later2 (bel_alloc (w2.alloc (gcells N A1 l1 q1)) (gcells K A2 l2 q2)) (boxg w2 N A1 l1 q1))
  have HX2 : Hid (((w2.alloc (gcells N A1 l1 q1)).alloc (gcells K A2 l2 q2)).cell? ⟨w2.heap.size + 1, 0, none⟩ = some (.int .i64 K) ∧ ((w2.alloc (gcells N A1 l1 q1)).alloc (gcells K A2 l2 q2)).cell? ⟨w2.heap.size + 1, 1, none⟩ = some (.slice A2 l2 q2)) := by
    have hz : (w2.alloc (gcells N A1 l1 q1)).heap.size = w2.heap.size + 1 := by simp
    rw [← hz]
    exact boxg (w2.alloc (gcells N A1 l1 q1)) K A2 l2 q2
  have HE3 := Lib.hid (HE2.out.below hb3)
  have HF3 := Lib.hid (HF2.out.below hb3)
  have HB3 := Lib.hid (bel_trans HB2.out hb3)
  clear hb3
  generalize (w2.alloc (gcells N A1 l1 q1)).alloc (gcells K A2 l2 q2) = w3 at *
  have HC3 : Hid (w3.cell? ⟨w2.heap.size, 0, none⟩ = some (.int .i64 N) ∧ w3.cell? ⟨w2.heap.size, 1, none⟩ = some (.slice A1 l1 q1) ∧ w3.cell? ⟨w2.heap.size + 1, 0, none⟩ = some (.int .i64 K) ∧ w3.cell? ⟨w2.heap.size + 1, 1, none⟩ = some (.slice A2 l2 q2)) := ⟨HX1.out.1, HX1.out.2, HX2.out.1, HX2.out.2⟩
  have HLA := Lib.hid (firstL_length HRB.out)
  have HLB := Lib.hid (firstL_length HKB.out)
  have hbr := bes_right HRB.out HKB.out (by have := HN.out; have := HK.out; omega) (by have := HN.out; have := HK.out; omega)
  have HFB := Lib.hid (first_beside HRB.out HKB.out (by have := HN.out; have := HK.out; omega) (by have := HN.out; have := HK.out; omega))
  have HLC : Hid ((firstL ((N : Int) + (K : Int)) (besE N es fs)).length = N + K) := by
    unfold Hid
    rw [HFB.out, List.length_append, List.length_map, HLA.out, HLB.out]
  clear hbr
  go_region_held3 (fun w' => w'.cell? ⟨w2.heap.size, 0, none⟩ = some (.int .i64 N) ∧ w'.cell? ⟨w2.heap.size, 1, none⟩ = some (.slice A1 l1 q1) ∧ w'.cell? ⟨w2.heap.size + 1, 0, none⟩ = some (.int .i64 K) ∧ w'.cell? ⟨w2.heap.size + 1, 1, none⟩ = some (.slice A2 l2 q2) ∧ RW w3 w')
    (first | assumption | exact RW.four HC3.out (RW.refl w3).drew | exact RW.four HC3.out (RW.later (And.right (And.right (And.right (And.right (by assumption))))) hb10) | exact RW.four HC3.out (RW.later (And.right (And.right (And.right (And.right (by assumption))))) hb11) | exact RW.four HC3.out (RW.later (And.right (And.right (And.right (And.right (by assumption))))) hb12) | exact RW.four HC3.out (RW.later (And.right (And.right (And.right (And.right (by assumption))))) hb13) | fail)
    (first
      | (go_at_call_of 37 A1; refine (first_any (c := q1) (N : Int) _ (HE3.out.below (And.right (And.right (And.right (And.right (by assumption))))))).mono ?_; rintro e w10 ⟨v10, rfl, o10, hb10⟩; obtain ⟨A10, c10, rfl, hle10, -, rd10⟩ := OwnI.read o10; rw [HLA.out] at rd10 hle10 ⊢; have RD10 := Lib.hid rd10; clear o10 rd10)
      | (go_at_call_of 37 A2; refine (first_any (c := q2) (K : Int) _ (HF3.out.below (And.right (And.right (And.right (And.right (by assumption))))))).mono ?_; rintro e w11 ⟨v11, rfl, o11, hb11⟩; obtain ⟨A11, c11, rfl, -, -, rd11⟩ := OwnI.read o11; rw [HLB.out] at rd11 ⊢; have RD11 := Lib.hid rd11; have RD10b := Lib.hid (RD10.out.below hb11); clear o11 rd11)
      | (go_at_call 44; refine (pbes_any _ (HE3.out.below (And.right (And.right (And.right (And.right (by assumption)))))) (HF3.out.below (And.right (And.right (And.right (And.right (by assumption)))))) HRB.out HKB.out).mono ?_; rintro e w12 ⟨A12, c12, rfl, rd12, hb12⟩; have RD12 := Lib.hid rd12; clear rd12)
      | (go_at_call_of 37 A12; refine (first_any (c := c12) ((N : Int) + (K : Int)) _ RD12.out).mono ?_; rintro e w13 ⟨v13, rfl, o13, hb13⟩; obtain ⟨A13, c13, rfl, hle13, -, rd13⟩ := OwnI.read o13; rw [HLC.out] at rd13 hle13 ⊢; have RD13 := Lib.hid rd13; clear o13 rd13)
      | fail)
  have hrw13 : RW w3 w13 := And.right (And.right (And.right (And.right (by assumption))))
  have HB13 := Lib.hid (bel_trans HB3.out hrw13)
  have HC13 := Lib.hid (And.intro (later2 hrw13 HX1.out) (later2 hrw13 HX2.out))
  have HRA := Lib.hid (RD10b.out.below (bel_trans hb12 hb13))
  have HRB2 := Lib.hid (RD11.out.below (bel_trans hb12 hb13))
  have HRC := RD13
  have HCC := Lib.hid (And.intro hle10 hle13)
  have hNK : N ≤ 20 ∧ K ≤ 20 := ⟨HN.out.1, HK.out.1⟩
  clear hrw13 hb10 hb11 hb12 hb13 hle10 hle13
  obtain ⟨fa, hfa⟩ : ∃ fa, fa = firstL N es := ⟨_, rfl⟩
  obtain ⟨fb, hfb⟩ : ∃ fb, fb = firstL K fs := ⟨_, rfl⟩
  obtain ⟨fc, hfc⟩ : ∃ fc, fc = firstL ((N : Int) + (K : Int)) (besE N es fs) := ⟨_, rfl⟩
  have HMB : Hid (∀ j, j < K → -1 ≤ gi fb j ∧ gi fb j ≤ 4096) := fun j hj => by
    have hm := firstTo_match (rightB_iff.1 HKB.out).2.2.2 K (Nat.le_refl _)
    have he : fb = firstTo K fs K := by
      rw [hfb]
      unfold firstL
      rw [HKB.out, if_pos rfl, Int.toNat_natCast]
    rw [he]
    have := HK.out
    rcases hm.2 j hj with q | ⟨x, h1, h2, -, -⟩ <;> omega
  rw [← hfa] at HRA HLA HFB
  rw [← hfb] at HRB2 HLB HFB
  rw [← hfc] at HRC HFB
  clear hfa hfb hfc RD10 RD10b RD11 RD12 RD13 HLC
  go_wp2_with fail
  refine (HAW.out _).mono ?_
  rintro e w14 ⟨rfl, hb14⟩
  have HB14 := Lib.hid (bel_trans HB13.out hb14)
  have HC14 := Lib.hid (And.intro (later2 hb14 HC13.out.1) (later2 hb14 HC13.out.2))
  have HRA4 := Lib.hid (HRA.out.below hb14)
  have HRB4 := Lib.hid (HRB2.out.below hb14)
  have HRC4 := Lib.hid (HRC.out.below hb14)
  have HR0 : Hid (RW w14 w14) := RW.refl w14
  obtain ⟨⟨x0, x1⟩, ⟨x2, x3⟩⟩ := HC14.out
  clear hb14
  go_wp2_with fail
  clear x0 x1 x2 x3
  go_loopw [14] (fun i wr => ∃ j : Nat, j ≤ K ∧ i = .int .i64 j ∧ Hid (RW w14 wr)) (fun i _ => K - (intOf i).toNat)
  case atStart => exact ⟨0, Nat.zero_le _, rfl, HR0⟩
  case round =>
    obtain ⟨j, hj, rfl, hrw⟩ := hrel
    obtain ⟨x0, x1⟩ := later2 hrw.out HC14.out.1
    obtain ⟨x2, x3⟩ := later2 hrw.out HC14.out.2
    by_cases hlt : j < K
    · have HLT := Lib.hid hlt
      obtain ⟨bb, ob, rfl, hcb⟩ := (HRB4.out.below hrw.out).2.2 (by omega)
      obtain ⟨bc, oc, rfl, hcc⟩ := (HRC4.out.below hrw.out).2.2 (by omega)
      have hbj := hcb j hlt
      have hcj := hcc (N + j) (by omega)
      have hval : gi fc (N + j) = shM N (gi fb j) := by
        rw [HFB.out, gi_app, if_neg (by have := HLA.out; omega), show N + j - fa.length = j from by have := HLA.out; omega, gi_map_sh (by have := HLB.out; omega)]
      rw [hval] at hcj
      have hji : (0 : Int) ≤ (j : Int) ∧ (j : Int) < (K : Int) := by omega
      have hci : (0 : Int) ≤ (N : Int) + (j : Int) ∧ (N : Int) + (j : Int) < (N : Int) + (K : Int) := by omega
      have s1 : IntKind.i64.wrap ((N : Int) + (j : Int)) = (N : Int) + (j : Int) := by rw [IntKind.wrap_i64]; omega
      have s3 : ((N : Int) + (j : Int)).toNat = N + j := by omega
      clear hcb hcc hval
      have hgl := HMB.out j hlt
      generalize gi fb j = y at *
      by_cases q : y < 0
      · have d1 : decide (y < 0) = true := decide_eq_true q
        have d2 : decide (0 ≤ y) = false := decide_eq_false (by omega)
        have hsh : shM N y = -1 := by unfold shM; rw [if_pos q]
        rw [hsh] at hcj
        clear q hsh
        go_wp2_with fail
        go_quiet (fail)
        rename_i nq
        have HR1 := Lib.hid (RW.later hrw.out (((Drawn.refl wr).step nq).below _))
        go_wp2_with fail
        go_roundw
        case rel => exact ⟨j + 1, by have := HLT.out; omega, by go_num, HR1⟩
        case measure => have := HLT.out; simp [intOf]; omega
      · have d1 : decide (y < 0) = false := decide_eq_false q
        have d2 : decide (0 ≤ y) = true := decide_eq_true (by omega)
        have hsh : shM N y = y + N := by unfold shM; rw [if_neg q]
        have s2 : IntKind.i64.wrap (y + (N : Int)) = y + (N : Int) := by rw [IntKind.wrap_i64]; omega
        rw [hsh] at hcj
        clear q hsh
        go_wp2_with fail
        go_quiet (fail)
        rename_i nq
        have HR1 := Lib.hid (RW.later hrw.out (((Drawn.refl wr).step nq).below _))
        clear s2
        go_wp2_with fail
        go_roundw
        case rel => exact ⟨j + 1, by have := HLT.out; omega, by go_num, HR1⟩
        case measure => have := HLT.out; simp [intOf]; omega
    · obtain rfl : j = K := by omega
      have hd : decide ((j : Int) < (j : Int)) = false := by rw [decide_eq_false_iff_not]; omega
      have hcut := fun W => cut_to A13 (N + j) c13 N (N : Int) rfl (by have := HCC.out; omega) W
      have htk : fc.take N = fa := by
        rw [HFB.out, List.take_append_of_le_length (by have := HLA.out; omega), List.take_of_length_le (by have := HLA.out; omega)]
      have hrt := (HRC4.out.below hrw.out).take N (by omega)
      rw [htk] at hrt
      have hps := plain_same (ca := c13) (cb := c10) wr hrt (HRA4.out.below hrw.out)
      have HBR := Lib.hid (bel_trans HB14.out hrw.out)
      clear hlt hj htk hrt
      go_wp2_with fail
      refine hps.mono ?_
      rintro e w20 ⟨rfl, hb20⟩
      have HF := Lib.hid (bel_trans HBR.out hb20)
      clear hps hb20
      go_wp2_with fail
      go_ret
      exact ⟨rfl, HF.out⟩

theorem greedyBeside_walk {A B : Option Addr} {n c m d : Nat} {zs ys : List Int} (k1 k2 : Int) (w : World) (_ : -9223372036854775808 ≤ k1 ∧ k1 ≤ 9223372036854775807) (_ : -9223372036854775808 ≤ k2 ∧ k2 ≤ 9223372036854775807) (h : ReadI w A n zs) (hp : ReadI w B m ys) :
    Calls Try.prog 9 #[.int .i64 k1, .int .i64 k2, .slice A n c, .slice B m d] w fun e w' => e = .returned (.bool true) ∧ Below w.heap.size w w' := greedyBeside_any k1 k2 w h hp

end Go.Proofs.Ytnldfjoadmehcaa
