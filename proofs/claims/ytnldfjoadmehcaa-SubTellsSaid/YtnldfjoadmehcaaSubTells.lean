/- The walk of the statement SubTells. -/
import Derived.Test.YtnldfjoadmehcaaRLess
import Derived.Test.YtnldfjoadmehcaaAwake5
set_option linter.unusedVariables false
set_option linter.unusedSimpArgs false
namespace Go.Proofs.Ytnldfjoadmehcaa
open Go.RowKit

theorem RW.trans {a b c : World} (h : RW a b) (k : RW b c) : RW a c := bel_trans h k
/-- What Keep and Without leave. -/
def KeepX (N : Int) (hs : List Ed) (l : List Int) (er : Int) (W : World) (e : Ending) (w' : World) : Prop :=
  ∃ A3 c3 A4 c4, e = .returned (.tuple #[.agg #[.int .i64 N, .slice A3 hs.length c3], .slice A4 l.length c4, .int .i64 er]) ∧ OwnE w' (W.heap.size + 2) (.slice A3 hs.length c3) hs ∧ OwnI w' (W.heap.size + 2) (.slice A4 l.length c4) l ∧ Below W.heap.size W w'
theorem KeepQ.x {N er : Int} {hs : List Ed} {l : List Int} {W : World} {e : Ending} {w' : World} (h : KeepQ (N, hs, l, er) W e w') : KeepX N hs l er W e w' := by
  obtain ⟨v, u, rfl, h1, h2, h3⟩ := h
  obtain ⟨A3, c3, rfl, -, -, -⟩ := OwnE.read h1
  obtain ⟨A4, c4, rfl, -, -, -⟩ := OwnI.read h2
  exact ⟨_, _, _, _, rfl, h1, h2, h3⟩
def LessX (N : Int) (hs : List Ed) (er : Int) (W : World) (e : Ending) (w' : World) : Prop :=
  ∃ A3 c3, e = .returned (.tuple #[.agg #[.int .i64 N, .slice A3 hs.length c3], .int .i64 er]) ∧ OwnE w' (W.heap.size + 2) (.slice A3 hs.length c3) hs ∧ Below W.heap.size W w'
theorem LessQ.x {N er : Int} {hs : List Ed} {W : World} {e : Ending} {w' : World} (h : LessQ (N, hs, er) W e w') : LessX N hs er W e w' := by
  obtain ⟨v, rfl, h1, h2⟩ := h
  obtain ⟨A3, c3, rfl, -, -, -⟩ := OwnE.read h1
  exact ⟨_, _, rfl, h1, h2⟩

set_option maxHeartbeats 16000000 in
set_option maxRecDepth 100000 in
theorem subTells_any {A B C : Option Addr} {n c m d k kc : Nat} {es ls : List Ed} {l : List Int} (N : Int) (w0 : World) (h : ReadE w0 A n es) (hnc : n ≤ c) (hl : ReadI w0 B m l) (hmd : m ≤ d) (hs : ReadE w0 C k ls) (hkc : k ≤ kc) :
    Calls Try.prog 6 #[.agg #[.int .i64 N, .slice A n c], .slice B m d, .slice C k kc] w0 fun e w' => e = .returned (.bool true) ∧ Below w0.heap.size w0 w' := by
  have hn := h.2.1
  have hm := hl.2.1
  have hk := hs.2.1
  have HAW : Hid (∀ W, Calls Try.prog 21 #[] W fun e w' => e = .returned (.bool true) ∧ Below W.heap.size W w') := fun W => awake5_any W
  have S0 : Hid (RW w0 (w0.alloc (gcells N A n c))) := bel_alloc _ _
  by_cases qd1 : (60 : Int) < (n : Int)
  · have d1 : decide ((60 : Int) < (n : Int)) = true := decide_eq_true qd1
    clear qd1
    go_enter Try.func6, Try.ntmps6
    go_wp2_with fail
    refine (HAW.out _).mono ?_
    rintro e w1 ⟨rfl, hb⟩
    have HF := Lib.hid (RW.trans S0.out hb)
    clear hb
    go_wp2_with fail
    go_ret
    exact ⟨rfl, HF.out⟩
  have d1 : decide ((60 : Int) < (n : Int)) = false := decide_eq_false qd1
  by_cases qd2 : (200 : Int) < N
  · have d2 : decide ((200 : Int) < N) = true := decide_eq_true qd2
    clear qd2
    go_enter Try.func6, Try.ntmps6
    go_wp2_with fail
    refine (HAW.out _).mono ?_
    rintro e w1 ⟨rfl, hb⟩
    have HF := Lib.hid (RW.trans S0.out hb)
    clear hb
    go_wp2_with fail
    go_ret
    exact ⟨rfl, HF.out⟩
  have d2 : decide ((200 : Int) < N) = false := decide_eq_false qd2
  by_cases qd3 : (60 : Int) < (m : Int)
  · have d3 : decide ((60 : Int) < (m : Int)) = true := decide_eq_true qd3
    clear qd3
    go_enter Try.func6, Try.ntmps6
    go_wp2_with fail
    refine (HAW.out _).mono ?_
    rintro e w1 ⟨rfl, hb⟩
    have HF := Lib.hid (RW.trans S0.out hb)
    clear hb
    go_wp2_with fail
    go_ret
    exact ⟨rfl, HF.out⟩
  have d3 : decide ((60 : Int) < (m : Int)) = false := decide_eq_false qd3
  by_cases qd4 : (60 : Int) < (k : Int)
  · have d4 : decide ((60 : Int) < (k : Int)) = true := decide_eq_true qd4
    clear qd4
    go_enter Try.func6, Try.ntmps6
    go_wp2_with fail
    refine (HAW.out _).mono ?_
    rintro e w1 ⟨rfl, hb⟩
    have HF := Lib.hid (RW.trans S0.out hb)
    clear hb
    go_wp2_with fail
    go_ret
    exact ⟨rfl, HF.out⟩
  have d4 : decide ((60 : Int) < (k : Int)) = false := decide_eq_false qd4
  have HNN : Hid (n ≤ 60 ∧ m ≤ 60 ∧ k ≤ 60) := by unfold Hid; omega
  have BG := Lib.hid (boxg w0 N A n c)
  have HE := Lib.hid h
  have HL := Lib.hid hl
  have HS := Lib.hid hs
  have HC := Lib.hid (And.intro hnc (And.intro hmd hkc))
  have hk1 : ∀ W B' d', ReadE W A n es → ReadI W B' m l → Calls Try.prog 19 #[.agg #[.int .i64 N, .slice A n c], .slice B' m d'] W (KeepQ (keepR N es l true) W) := fun W B' d' h1 h2 => keep_any (c := c) (d := d') N W h1 h2
  have hk2 : ∀ W, ReadE W A n es → ReadI W B m l → Calls Try.prog 31 #[.agg #[.int .i64 N, .slice A n c], .slice B m d] W (KeepQ (keepR N es l true) W) := fun W h1 h2 => rkeep_any (c := c) (d := d) N W h1 h2 hmd
  have hk3 : ∀ W B' d', ReadE W A n es → ReadI W B' m l → Calls Try.prog 24 #[.agg #[.int .i64 N, .slice A n c], .slice B' m d'] W (KeepQ (keepR N es l false) W) := fun W B' d' h1 h2 => without_any (c := c) (d := d') N W h1 h2
  have hk4 : ∀ W, ReadE W A n es → ReadI W B m l → Calls Try.prog 32 #[.agg #[.int .i64 N, .slice A n c], .slice B m d] W (KeepQ (keepR N es l false) W) := fun W h1 h2 => rwithout_any (c := c) (d := d) N W h1 h2 hmd
  have hk5 : ∀ W C' d', ReadE W A n es → ReadE W C' k ls → Calls Try.prog 27 #[.agg #[.int .i64 N, .slice A n c], .slice C' k d'] W (LessQ (lessP N es ls) W) := fun W C' d' h1 h2 => less_any (c := c) (d := d') N W h1 h2
  have hk6 : ∀ W, ReadE W A n es → ReadE W C k ls → Calls Try.prog 33 #[.agg #[.int .i64 N, .slice A n c], .slice C k kc] W (LessQ (lessP N es ls) W) := fun W h1 h2 => rless_any (c := c) (d := kc) N W h1 h2 hnc
  generalize keepR N es l true = P at *
  generalize keepR N es l false = Q at *
  generalize lessP N es ls = R at *
  obtain ⟨P1, P2, P3, P4⟩ := P
  obtain ⟨Q1, Q2, Q3, Q4⟩ := Q
  obtain ⟨R1, R2, R3⟩ := R
  have K1 := Lib.hid hk1
  have K2 := Lib.hid hk2
  have K3 := Lib.hid hk3
  have K4 := Lib.hid hk4
  have K5 := Lib.hid hk5
  have K6 := Lib.hid hk6
  clear hk1 hk2 hk3 hk4 hk5 hk6 h hl hs hnc hmd hkc qd1 qd2 qd3 qd4
  go_enter Try.func6, Try.ntmps6
  go_wp2_with fail
  clear d1 d2 d3 d4
  generalize w0.alloc (gcells N A n c) = w1 at *
  refine (ownI_any (c := d) 71 w1 (HL.out.below S0.out) (by have := HNN.out; omega)).mono ?_
  rintro e w2 ⟨ga, rfl, RA, hga, s1⟩
  have S1 : Hid (RW w1 w2) := s1
  clear s1
  go_wp2_with fail
  refine (ownE_any (c := kc) 71 0 w2 (HS.out.below (RW.trans S0.out S1.out)) (by have := HNN.out; omega)).mono ?_
  rintro e w3 ⟨gb, rfl, RB, hgb, s2⟩
  have S2 : Hid (RW w2 w3) := s2
  clear s2
  obtain ⟨bg0, bg1⟩ := later2 (RW.trans S1.out S2.out) BG.out
  go_wp2_with fail
  refine (K1.out w3 (some ⟨ga, 0, none⟩) (m + 3) (HE.out.below (RW.trans (RW.trans S0.out S1.out) S2.out)) (padI_read (RA.out.later S2.out) HL.out.1 (by have := HNN.out; omega))).mono ?_
  intro e w4 hq
  obtain ⟨Ea, eca, Ia, ica, rfl, oea, oia, s3⟩ := KeepQ.x hq
  have OEa := Lib.hid (readE_own oea)
  have OIa := Lib.hid (readI_own oia)
  clear oea oia
  have S3 : Hid (RW w3 w4) := s3
  have S4 : Hid (RW w4 (w4.alloc (gcells P1 Ea P2.length eca))) := bel_alloc _ _
  have Ba := Lib.hid (boxg w4 P1 Ea P2.length eca)
  clear s3 hq bg0 bg1
  obtain ⟨bg0, bg1⟩ := later2 (RW.trans (RW.trans (RW.trans S1.out S2.out) S3.out) S4.out) BG.out
  go_wp2_with fail
  generalize w4.alloc (gcells P1 Ea P2.length eca) = w5 at *
  refine (K2.out w5 (HE.out.below (RW.trans (RW.trans (RW.trans (RW.trans S0.out S1.out) S2.out) S3.out) S4.out)) (HL.out.below (RW.trans (RW.trans (RW.trans (RW.trans S0.out S1.out) S2.out) S3.out) S4.out))).mono ?_
  intro e w6 hq
  obtain ⟨Eb, ecb, Ib, icb, rfl, oeb, oib, s5⟩ := KeepQ.x hq
  have OEb := Lib.hid (readE_own oeb)
  have OIb := Lib.hid (readI_own oib)
  clear oeb oib
  have S5 : Hid (RW w5 w6) := s5
  have S6 : Hid (RW w6 (w6.alloc (gcells P1 Eb P2.length ecb))) := bel_alloc _ _
  have Bb := Lib.hid (boxg w6 P1 Eb P2.length ecb)
  clear s5 hq bg0 bg1
  obtain ⟨bg0, bg1⟩ := later2 (RW.trans (RW.trans (RW.trans (RW.trans (RW.trans S1.out S2.out) S3.out) S4.out) S5.out) S6.out) BG.out
  go_wp2_with fail
  generalize w6.alloc (gcells P1 Eb P2.length ecb) = w7 at *
  refine (K3.out w7 (some ⟨ga, 0, none⟩) (m + 3) (HE.out.below (RW.trans (RW.trans (RW.trans (RW.trans (RW.trans (RW.trans S0.out S1.out) S2.out) S3.out) S4.out) S5.out) S6.out)) (padI_read (RA.out.later (RW.trans (RW.trans (RW.trans (RW.trans S2.out S3.out) S4.out) S5.out) S6.out)) HL.out.1 (by have := HNN.out; omega))).mono ?_
  intro e w8 hq
  obtain ⟨Ec, ecc, Ic, icc, rfl, oec, oic, s7⟩ := KeepQ.x hq
  have OEc := Lib.hid (readE_own oec)
  have OIc := Lib.hid (readI_own oic)
  clear oec oic
  have S7 : Hid (RW w7 w8) := s7
  have S8 : Hid (RW w8 (w8.alloc (gcells Q1 Ec Q2.length ecc))) := bel_alloc _ _
  have Bc := Lib.hid (boxg w8 Q1 Ec Q2.length ecc)
  clear s7 hq bg0 bg1
  obtain ⟨bg0, bg1⟩ := later2 (RW.trans (RW.trans (RW.trans (RW.trans (RW.trans (RW.trans (RW.trans S1.out S2.out) S3.out) S4.out) S5.out) S6.out) S7.out) S8.out) BG.out
  go_wp2_with fail
  generalize w8.alloc (gcells Q1 Ec Q2.length ecc) = w9 at *
  refine (K4.out w9 (HE.out.below (RW.trans (RW.trans (RW.trans (RW.trans (RW.trans (RW.trans (RW.trans (RW.trans S0.out S1.out) S2.out) S3.out) S4.out) S5.out) S6.out) S7.out) S8.out)) (HL.out.below (RW.trans (RW.trans (RW.trans (RW.trans (RW.trans (RW.trans (RW.trans (RW.trans S0.out S1.out) S2.out) S3.out) S4.out) S5.out) S6.out) S7.out) S8.out))).mono ?_
  intro e w10 hq
  obtain ⟨Ed, ecd, Id, icd, rfl, oed, oid, s9⟩ := KeepQ.x hq
  have OEd := Lib.hid (readE_own oed)
  have OId := Lib.hid (readI_own oid)
  clear oed oid
  have S9 : Hid (RW w9 w10) := s9
  have S10 : Hid (RW w10 (w10.alloc (gcells Q1 Ed Q2.length ecd))) := bel_alloc _ _
  have Bd := Lib.hid (boxg w10 Q1 Ed Q2.length ecd)
  clear s9 hq bg0 bg1
  obtain ⟨bg0, bg1⟩ := later2 (RW.trans (RW.trans (RW.trans (RW.trans (RW.trans (RW.trans (RW.trans (RW.trans (RW.trans S1.out S2.out) S3.out) S4.out) S5.out) S6.out) S7.out) S8.out) S9.out) S10.out) BG.out
  go_wp2_with fail
  generalize w10.alloc (gcells Q1 Ed Q2.length ecd) = w11 at *
  refine (K5.out w11 (some ⟨gb, 0, none⟩) (k + 3) (HE.out.below (RW.trans (RW.trans (RW.trans (RW.trans (RW.trans (RW.trans (RW.trans (RW.trans (RW.trans (RW.trans S0.out S1.out) S2.out) S3.out) S4.out) S5.out) S6.out) S7.out) S8.out) S9.out) S10.out)) (padE_read (RB.out.later (RW.trans (RW.trans (RW.trans (RW.trans (RW.trans (RW.trans (RW.trans S3.out S4.out) S5.out) S6.out) S7.out) S8.out) S9.out) S10.out)) HS.out.1 (by have := HNN.out; omega))).mono ?_
  intro e w12 hq
  obtain ⟨Ee, ece, rfl, oee, s11⟩ := LessQ.x hq
  have OEe := Lib.hid (readE_own oee)
  clear oee
  have S11 : Hid (RW w11 w12) := s11
  have S12 : Hid (RW w12 (w12.alloc (gcells R1 Ee R2.length ece))) := bel_alloc _ _
  have Be := Lib.hid (boxg w12 R1 Ee R2.length ece)
  clear s11 hq bg0 bg1
  obtain ⟨bg0, bg1⟩ := later2 (RW.trans (RW.trans (RW.trans (RW.trans (RW.trans (RW.trans (RW.trans (RW.trans (RW.trans (RW.trans (RW.trans S1.out S2.out) S3.out) S4.out) S5.out) S6.out) S7.out) S8.out) S9.out) S10.out) S11.out) S12.out) BG.out
  go_wp2_with fail
  generalize w12.alloc (gcells R1 Ee R2.length ece) = w13 at *
  refine (K6.out w13 (HE.out.below (RW.trans (RW.trans (RW.trans (RW.trans (RW.trans (RW.trans (RW.trans (RW.trans (RW.trans (RW.trans (RW.trans (RW.trans S0.out S1.out) S2.out) S3.out) S4.out) S5.out) S6.out) S7.out) S8.out) S9.out) S10.out) S11.out) S12.out)) (HS.out.below (RW.trans (RW.trans (RW.trans (RW.trans (RW.trans (RW.trans (RW.trans (RW.trans (RW.trans (RW.trans (RW.trans (RW.trans S0.out S1.out) S2.out) S3.out) S4.out) S5.out) S6.out) S7.out) S8.out) S9.out) S10.out) S11.out) S12.out))).mono ?_
  intro e w14 hq
  obtain ⟨Ef, ecf, rfl, oef, s13⟩ := LessQ.x hq
  have OEf := Lib.hid (readE_own oef)
  clear oef
  have S13 : Hid (RW w13 w14) := s13
  have S14 : Hid (RW w14 (w14.alloc (gcells R1 Ef R2.length ecf))) := bel_alloc _ _
  have Bf := Lib.hid (boxg w14 R1 Ef R2.length ecf)
  clear s13 hq bg0 bg1
  go_wp2_with fail
  generalize w14.alloc (gcells R1 Ef R2.length ecf) = w15 at *
  refine (HAW.out w15).mono ?_
  rintro e w16 ⟨rfl, s15⟩
  have S15 : Hid (RW w15 w16) := s15
  clear s15
  obtain ⟨x0, x1⟩ := later2 (RW.trans (RW.trans (RW.trans (RW.trans (RW.trans (RW.trans (RW.trans (RW.trans (RW.trans (RW.trans S5.out S6.out) S7.out) S8.out) S9.out) S10.out) S11.out) S12.out) S13.out) S14.out) S15.out) Ba.out
  obtain ⟨y0, y1⟩ := later2 (RW.trans (RW.trans (RW.trans (RW.trans (RW.trans (RW.trans (RW.trans (RW.trans S7.out S8.out) S9.out) S10.out) S11.out) S12.out) S13.out) S14.out) S15.out) Bb.out
  have hge := graphEq_any (N := P1) (M := P1) (ca := eca) (cb := ecb) w16 (OEa.out.below (RW.trans (RW.trans (RW.trans (RW.trans (RW.trans (RW.trans (RW.trans (RW.trans (RW.trans (RW.trans (RW.trans S4.out S5.out) S6.out) S7.out) S8.out) S9.out) S10.out) S11.out) S12.out) S13.out) S14.out) S15.out)) (OEb.out.below (RW.trans (RW.trans (RW.trans (RW.trans (RW.trans (RW.trans (RW.trans (RW.trans (RW.trans S6.out S7.out) S8.out) S9.out) S10.out) S11.out) S12.out) S13.out) S14.out) S15.out))
  rw [decide_eq_true rfl, decide_eq_true rfl, Bool.true_and] at hge
  go_wp2_with fail
  refine hge.mono ?_
  rintro e w17 ⟨rfl, sx⟩
  have S16 : Hid (RW w16 w17) := sx
  clear sx hge x0 x1 y0 y1
  have hpl := plain_any (ca := ica) (cb := icb) w17 (OIa.out.below (RW.trans (RW.trans (RW.trans (RW.trans (RW.trans (RW.trans (RW.trans (RW.trans (RW.trans (RW.trans (RW.trans (RW.trans S4.out S5.out) S6.out) S7.out) S8.out) S9.out) S10.out) S11.out) S12.out) S13.out) S14.out) S15.out) S16.out)) (OIb.out.below (RW.trans (RW.trans (RW.trans (RW.trans (RW.trans (RW.trans (RW.trans (RW.trans (RW.trans (RW.trans S6.out S7.out) S8.out) S9.out) S10.out) S11.out) S12.out) S13.out) S14.out) S15.out) S16.out))
  rw [decide_eq_true rfl] at hpl
  go_wp2_with fail
  refine hpl.mono ?_
  rintro e w18 ⟨rfl, sx⟩
  have S17 : Hid (RW w17 w18) := sx.below _
  clear sx hpl
  obtain ⟨x0, x1⟩ := later2 (RW.trans (RW.trans (RW.trans (RW.trans (RW.trans (RW.trans (RW.trans (RW.trans S9.out S10.out) S11.out) S12.out) S13.out) S14.out) S15.out) S16.out) S17.out) Bc.out
  obtain ⟨y0, y1⟩ := later2 (RW.trans (RW.trans (RW.trans (RW.trans (RW.trans (RW.trans S11.out S12.out) S13.out) S14.out) S15.out) S16.out) S17.out) Bd.out
  have hge := graphEq_any (N := Q1) (M := Q1) (ca := ecc) (cb := ecd) w18 (OEc.out.below (RW.trans (RW.trans (RW.trans (RW.trans (RW.trans (RW.trans (RW.trans (RW.trans (RW.trans S8.out S9.out) S10.out) S11.out) S12.out) S13.out) S14.out) S15.out) S16.out) S17.out)) (OEd.out.below (RW.trans (RW.trans (RW.trans (RW.trans (RW.trans (RW.trans (RW.trans S10.out S11.out) S12.out) S13.out) S14.out) S15.out) S16.out) S17.out))
  rw [decide_eq_true rfl, decide_eq_true rfl, Bool.true_and] at hge
  go_wp2_with fail
  refine hge.mono ?_
  rintro e w19 ⟨rfl, sx⟩
  have S18 : Hid (RW w18 w19) := sx
  clear sx hge x0 x1 y0 y1
  have hpl := plain_any (ca := icc) (cb := icd) w19 (OIc.out.below (RW.trans (RW.trans (RW.trans (RW.trans (RW.trans (RW.trans (RW.trans (RW.trans (RW.trans (RW.trans S8.out S9.out) S10.out) S11.out) S12.out) S13.out) S14.out) S15.out) S16.out) S17.out) S18.out)) (OId.out.below (RW.trans (RW.trans (RW.trans (RW.trans (RW.trans (RW.trans (RW.trans (RW.trans S10.out S11.out) S12.out) S13.out) S14.out) S15.out) S16.out) S17.out) S18.out))
  rw [decide_eq_true rfl] at hpl
  go_wp2_with fail
  refine hpl.mono ?_
  rintro e w20 ⟨rfl, sx⟩
  have S19 : Hid (RW w19 w20) := sx.below _
  clear sx hpl
  obtain ⟨x0, x1⟩ := later2 (RW.trans (RW.trans (RW.trans (RW.trans (RW.trans (RW.trans S13.out S14.out) S15.out) S16.out) S17.out) S18.out) S19.out) Be.out
  obtain ⟨y0, y1⟩ := later2 (RW.trans (RW.trans (RW.trans (RW.trans S15.out S16.out) S17.out) S18.out) S19.out) Bf.out
  have hge := graphEq_any (N := R1) (M := R1) (ca := ece) (cb := ecf) w20 (OEe.out.below (RW.trans (RW.trans (RW.trans (RW.trans (RW.trans (RW.trans (RW.trans S12.out S13.out) S14.out) S15.out) S16.out) S17.out) S18.out) S19.out)) (OEf.out.below (RW.trans (RW.trans (RW.trans (RW.trans (RW.trans S14.out S15.out) S16.out) S17.out) S18.out) S19.out))
  rw [decide_eq_true rfl, decide_eq_true rfl, Bool.true_and] at hge
  go_wp2_with fail
  refine hge.mono ?_
  rintro e w21 ⟨rfl, sx⟩
  have S20 : Hid (RW w20 w21) := sx
  clear sx hge x0 x1 y0 y1
  go_wp2_with fail
  refine (keptI_any (c := d) 71 w21 (HL.out.below (RW.trans (RW.trans (RW.trans (RW.trans (RW.trans (RW.trans (RW.trans (RW.trans (RW.trans (RW.trans (RW.trans (RW.trans (RW.trans (RW.trans (RW.trans (RW.trans (RW.trans (RW.trans (RW.trans (RW.trans S0.out S1.out) S2.out) S3.out) S4.out) S5.out) S6.out) S7.out) S8.out) S9.out) S10.out) S11.out) S12.out) S13.out) S14.out) S15.out) S16.out) S17.out) S18.out) S19.out) S20.out)) (RA.out.later (RW.trans (RW.trans (RW.trans (RW.trans (RW.trans (RW.trans (RW.trans (RW.trans (RW.trans (RW.trans (RW.trans (RW.trans (RW.trans (RW.trans (RW.trans (RW.trans (RW.trans (RW.trans S2.out S3.out) S4.out) S5.out) S6.out) S7.out) S8.out) S9.out) S10.out) S11.out) S12.out) S13.out) S14.out) S15.out) S16.out) S17.out) S18.out) S19.out) S20.out)) (by have := HNN.out; omega)).mono ?_
  rintro e w22 ⟨rfl, sx⟩
  have S21 : Hid (RW w21 w22) := sx
  clear sx
  go_wp2_with fail
  refine (keptE_any2 (c := kc) 71 0 w22 (HS.out.below (RW.trans (RW.trans (RW.trans (RW.trans (RW.trans (RW.trans (RW.trans (RW.trans (RW.trans (RW.trans (RW.trans (RW.trans (RW.trans (RW.trans (RW.trans (RW.trans (RW.trans (RW.trans (RW.trans (RW.trans (RW.trans S0.out S1.out) S2.out) S3.out) S4.out) S5.out) S6.out) S7.out) S8.out) S9.out) S10.out) S11.out) S12.out) S13.out) S14.out) S15.out) S16.out) S17.out) S18.out) S19.out) S20.out) S21.out)) (RB.out.later (RW.trans (RW.trans (RW.trans (RW.trans (RW.trans (RW.trans (RW.trans (RW.trans (RW.trans (RW.trans (RW.trans (RW.trans (RW.trans (RW.trans (RW.trans (RW.trans (RW.trans (RW.trans S3.out S4.out) S5.out) S6.out) S7.out) S8.out) S9.out) S10.out) S11.out) S12.out) S13.out) S14.out) S15.out) S16.out) S17.out) S18.out) S19.out) S20.out) S21.out)) (by have := HNN.out; omega)).mono ?_
  rintro e w23 ⟨rfl, sx⟩
  have S22 : Hid (RW w22 w23) := sx
  clear sx
  go_wp2_with fail
  go_ret
  exact ⟨rfl, (RW.trans (RW.trans (RW.trans (RW.trans (RW.trans (RW.trans (RW.trans (RW.trans (RW.trans (RW.trans (RW.trans (RW.trans (RW.trans (RW.trans (RW.trans (RW.trans (RW.trans (RW.trans (RW.trans (RW.trans (RW.trans (RW.trans S0.out S1.out) S2.out) S3.out) S4.out) S5.out) S6.out) S7.out) S8.out) S9.out) S10.out) S11.out) S12.out) S13.out) S14.out) S15.out) S16.out) S17.out) S18.out) S19.out) S20.out) S21.out) S22.out)⟩

theorem subTells_walk {A B C : Option Addr} {n c m d k kc : Nat} {es ls : List Ed} {l : List Int} {N : Int} (w : World) (h : ReadE w A n es ∧ n ≤ c) (hl : ReadI w B m l ∧ m ≤ d) (hs : ReadE w C k ls ∧ k ≤ kc) :
    Calls Try.prog 6 #[.agg #[.int .i64 N, .slice A n c], .slice B m d, .slice C k kc] w fun e w' => e = .returned (.bool true) ∧ Below w.heap.size w w' := subTells_any N w h.1 h.2 hl.1 hl.2 hs.1 hs.2

end Go.Proofs.Ytnldfjoadmehcaa
