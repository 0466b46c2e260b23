/- The plain law of SidesBeside, and its walk. -/
import Derived.Test.YtnldfjoadmehcaaSdMore
import Derived.Test.YtnldfjoadmehcaaBeside
set_option linter.unusedVariables false
set_option linter.unusedSimpArgs false
namespace Go.Proofs.Ytnldfjoadmehcaa
open Go.RowKit

section
variable {N K : Nat} {es fs : List Ed}
theorem nxt_left (h : Rise N es) (k : Rise K fs) {x y : Nat} (hx : x < N) : Nxt (besE N es fs) x y ↔ Nxt es x y := by
  unfold Nxt
  rw [near_left h k hx]
theorem nxt_right (h : Rise N es) (k : Rise K fs) {u y : Nat} : Nxt (besE N es fs) (N + u) y ↔ ∃ v, y = N + v ∧ Nxt fs u v := by
  unfold Nxt
  rw [show ((N + u : Nat) : Int) = (N : Int) + u from by omega, near_right h k u, List.mem_map]
  constructor
  · rintro ⟨z, hz, e⟩
    have := near_in k hz
    exact ⟨z.toNat, by omega, by rwa [Int.toNat_of_nonneg (by omega)]⟩
  · rintro ⟨v, rfl, hv⟩
    exact ⟨_, hv, by omega⟩
theorem two_app {s t : List Int} (h : Rise N es) (k : Rise K fs) (hs : TwoCol N es s) (ht : TwoCol K fs t) : TwoCol (N + K) (besE N es fs) (s ++ t) := by
  refine ⟨by rw [List.length_append, hs.len, ht.len], fun v hv => ?_, fun x y e => ?_⟩
  · rw [gi_app, hs.len]
    split
    · exact hs.val v (by assumption)
    · exact ht.val _ (by omega)
  · by_cases q : x < N
    · have e' := (nxt_left h k q).1 e
      have := e'.lt h
      rw [gi_app, gi_app, hs.len, if_pos q, if_pos this.2.1]
      exact hs.dif _ _ e'
    · obtain ⟨u, rfl⟩ : ∃ u, x = N + u := ⟨x - N, by omega⟩
      obtain ⟨v, rfl, e'⟩ := (nxt_right h k).1 e
      rw [gi_app, gi_app, hs.len, if_neg (by omega), if_neg (by omega), show N + u - N = u from by omega, show N + v - N = v from by omega]
      exact ht.dif _ _ e'
theorem two_split {t : List Int} (h : Rise N es) (k : Rise K fs) (ht : TwoCol (N + K) (besE N es fs) t) : TwoCol N es (t.take N) ∧ TwoCol K fs (t.drop N) := by
  have g1 : ∀ x, x < N → gi (t.take N) x = gi t x := fun x hx => by simp [gi, List.getD_eq_getElem?_getD, List.getElem?_take, hx]
  have hl := ht.len
  refine ⟨⟨by rw [List.length_take]; omega, fun v hv => ?_, fun x y e => ?_⟩, ⟨by rw [List.length_drop]; omega, fun v hv => ?_, fun x y e => ?_⟩⟩
  · rw [g1 v hv]
    exact ht.val v (by omega)
  · obtain ⟨h1, h2, -⟩ := e.lt h
    rw [g1 x h1, g1 y h2]
    exact ht.dif _ _ ((nxt_left h k h1).2 e)
  · rw [gi_drop]
    exact ht.val _ (by omega)
  · rw [gi_drop, gi_drop]
    exact ht.dif _ _ ((nxt_right h k).2 ⟨y, rfl, e⟩)
theorem way_left (h : Rise N es) (k : Rise K fs) {x y : Nat} {q : Bool} (w : Way es x y q) : Way (besE N es fs) x y q := by
  induction w with
  | here => exact .here _
  | @step y z p _ e ih => exact .step ih ((nxt_left h k (e.lt h).1).2 e)
theorem way_left' (h : Rise N es) (k : Rise K fs) {x y : Nat} {q : Bool} (w : Way (besE N es fs) x y q) (hx : x < N) : y < N ∧ Way es x y q := by
  induction w with
  | here => exact ⟨hx, .here _⟩
  | @step y z p _ e ih =>
    obtain ⟨h1, h2⟩ := ih
    have e' := (nxt_left h k h1).1 e
    exact ⟨(e'.lt h).2.1, .step h2 e'⟩
theorem way_right (h : Rise N es) (k : Rise K fs) {x y : Nat} {q : Bool} (w : Way fs x y q) : Way (besE N es fs) (N + x) (N + y) q := by
  induction w with
  | here => exact .here _
  | @step y z p _ e ih => exact .step ih ((nxt_right h k).2 ⟨z, rfl, e⟩)
theorem way_right' (h : Rise N es) (k : Rise K fs) {x a y : Nat} {q : Bool} (w : Way (besE N es fs) a y q) (ha : a = N + x) : ∃ v, y = N + v ∧ Way fs x v q := by
  induction w with
  | here => exact ⟨x, ha, .here _⟩
  | @step y z p _ e ih =>
    obtain ⟨v, rfl, w⟩ := ih
    obtain ⟨u, rfl, e'⟩ := (nxt_right h k).1 e
    exact ⟨u, rfl, .step w e'⟩
theorem side_app {s t : List Int} (h : Rise N es) (k : Rise K fs) (hs : SideOk N es s) (ht : SideOk K fs t) : SideOk (N + K) (besE N es fs) (s ++ t) := by
  refine ⟨two_app h k hs.1 ht.1, fun x hx => ?_⟩
  by_cases q : x < N
  · obtain ⟨r, w, m⟩ := hs.2 x q
    have hrN : r < N := by
      have := m _ _ w
      omega
    refine ⟨r, ?_, fun y o v => m _ _ (way_left' h k v hrN).2⟩
    rw [gi_app, hs.1.len, if_pos q]
    exact way_left h k w
  · obtain ⟨u, rfl⟩ : ∃ u, x = N + u := ⟨x - N, by omega⟩
    obtain ⟨r, w, m⟩ := ht.2 u (by omega)
    refine ⟨N + r, ?_, fun y o v => ?_⟩
    · rw [gi_app, hs.1.len, if_neg (by omega), show N + u - N = u from by omega]
      exact way_right h k w
    · obtain ⟨z, rfl, v'⟩ := way_right' h k v rfl
      have := m _ _ v'
      omega
/-- What Of tells of two graphs side by side. -/
theorem bes_end {xs ys zs r1 r2 r3 : List Int} {e f g : Int} (h : rightB N es = true) (k : rightB K fs = true) (hn : N + K ≤ 4096) (hl : es.length + fs.length ≤ 65536) (p1 : SPl N es xs r1 e) (p2 : SPl K fs ys r2 f) (p3 : SPl ((N : Int) + K) (besE N es fs) zs r3 g) :
    (e = 0 ∧ f = 0 ∧ g = 0 ∧ zs = xs ++ ys ∧ r3 = []) ∨ (((e == 0) = false ∨ (e == 0) = true ∧ (f == 0) = false) ∧ g = 10 ∧ isCycB ((N : Int) + K) (besE N es fs) r3 = true ∧ r3.length % 2 = 1 ∧ zs = []) := by
  have hb := bes_right h k hn hl
  have hr := (rightB_iff.1 h).2.2.2
  have kr := (rightB_iff.1 k).2.2.2
  have eN : ((N : Int) + K) = ((N + K : Nat) : Int) := by omega
  rw [eN] at p3 hb ⊢
  have br := (rightB_iff.1 hb).2.2.2
  rcases pl_cases hb p3 with ⟨a1, a2, a3⟩ | ⟨a1, a2, a3⟩
  · obtain ⟨t1, t2⟩ := two_split hr kr a1.1
    rcases pl_cases h p1 with ⟨b1, b2, b3⟩ | ⟨b1, b2, b3⟩
    · rcases pl_cases k p2 with ⟨c1, c2, c3⟩ | ⟨c1, c2, c3⟩
      · exact .inl ⟨b3, c3, a3, side_unique br a1 (side_app hr kr b1 c1), a2⟩
      · exact absurd t2 (odd_none kr c2)
    · exact absurd t1 (odd_none hr b2)
  · refine .inr ⟨?_, a3, (cyc_ring hb).2 ⟨a2.1, a2.2.1⟩, a2.2.2, a1⟩
    rcases pl_cases h p1 with ⟨b1, b2, b3⟩ | ⟨b1, b2, b3⟩
    · rcases pl_cases k p2 with ⟨c1, c2, c3⟩ | ⟨c1, c2, c3⟩
      · exact absurd (two_app hr kr b1.1 c1.1) (odd_none br a2)
      · exact .inr ⟨by rw [b3]; rfl, by rw [c3]; rfl⟩
    · exact .inl (by rw [b3]; rfl)
end

/- The walk of the statement SidesBeside. -/
/-- A graph that Small makes. -/
theorem small_graph {A : Option Addr} {n c : Nat} {zs : List Int} (N V E : Int) (w : World) (h : ReadI w A n zs) (hV : 0 ≤ V ∧ V ≤ 1000) (hE : 0 ≤ E ∧ E ≤ 1000) :
    Calls Try.prog 18 #[.int .i64 N, .slice A n c, .int .i64 V, .int .i64 E] w fun e w' => ∃ (M l k : Nat) (B : Option Addr) (es : List Ed), e = .returned (.agg #[.int .i64 M, .slice B l k]) ∧ (M : Int) ≤ V ∧ (es.length : Int) ≤ E ∧ rightB M es = true ∧ ReadE w' B l es ∧ l ≤ k ∧ Below w.heap.size w w' :=
  (small_any (c := c) N V E w h hV hE).mono fun e w' ⟨g, m, es, he, h0, h1, h2, h3, v, hg, ho, hb⟩ => by
    obtain ⟨B, k, hv, hk, -, hr⟩ := OwnE.read ho
    refine ⟨m.toNat, es.length, k, B, es, ?_, by omega, by omega, ?_, hr, hk, hb⟩
    · rw [he, hg, hv, Int.toNat_of_nonneg h0]
    · rw [Int.toNat_of_nonneg h0]
      exact h3

set_option maxHeartbeats 16000000 in
set_option maxRecDepth 100000 in
theorem sidesBeside_any {A B : Option Addr} {n c m d : Nat} {zs ys0 : List Int} (k1 k2 : Int) (w0 : World) (h : ReadI w0 A n zs) (hp : ReadI w0 B m ys0) :
    Calls Try.prog 17 #[.int .i64 k1, .int .i64 k2, .slice A n c, .slice B m d] w0 fun e w' => e = .returned (.bool true) ∧ Below w0.heap.size w0 w' := by
  have HAW : Hid (∀ W, Calls Try.prog 58 #[] W fun e w' => e = .returned (.bool true) ∧ Below W.heap.size W w') := fun W => awake4_any W
  have hsm := small_graph (c := c) k1 14 16 w0 h (by decide) (by decide)
  have HP := Lib.hid hp
  clear h hp
  go_enter Try.func17, Try.ntmps17
  go_wp2_with fail
  refine hsm.mono ?_
  rintro e w1 ⟨N, l1, q1, A1, es, rfl, hNV, hEE, hR, hrd, hlk, hb1⟩
  have HRB := Lib.hid hR
  have HE1 := Lib.hid hrd
  have HB1 := Lib.hid hb1
  have HN : Hid (N ≤ 14 ∧ es.length ≤ 16) := by unfold Hid; omega
  clear hsm hR hrd hb1 hEE hNV hlk
  have hsm := small_graph (c := d) k2 14 16 w1 (HP.out.below HB1.out) (by decide) (by decide)
  go_wp2_with fail
  refine hsm.mono ?_
  rintro e w2 ⟨K, l2, q2, A2, fs, rfl, hNV, hEE, hR, hrd, hlk, hb2⟩
  have HKB := Lib.hid hR
  have HF2 := Lib.hid hrd
  have HE2 := Lib.hid (HE1.out.below hb2)
  have HB2 := Lib.hid (bel_trans HB1.out hb2)
  have HK : Hid (K ≤ 14 ∧ fs.length ≤ 16) := by unfold Hid; omega
  clear hsm hR hrd hb2 hEE hNV hlk
  go_wp2_with fail
  have hb3 : Below w2.heap.size w2 ((w2.alloc (gcells N A1 l1 q1)).alloc (gcells K A2 l2 q2)) := bel_trans (bel_alloc _ _) (bel_alloc _ _)
  have HX1 := Lib.hid (later2 (bel_alloc (w2.alloc (gcells N A1 l1 q1)) (gcells K A2 l2 q2)) (boxg w2 N A1 l1 q1))
  have HX2 : Hid (((w2.alloc (gcells N A1 l1 q1)).alloc (gcells K A2 l2 q2)).cell? ⟨w2.heap.size + 1, 0, none⟩ = some (.int .i64 K) ∧ ((w2.alloc (gcells N A1 l1 q1)).alloc (gcells K A2 l2 q2)).cell? ⟨w2.heap.size + 1, 1, none⟩ = some (.slice A2 l2 q2)) := by
    have hz : (w2.alloc (gcells N A1 l1 q1)).heap.size = w2.heap.size + 1 := by simp
    rw [← hz]
    exact boxg (w2.alloc (gcells N A1 l1 q1)) K A2 l2 q2
  have HE3 := Lib.hid (HE2.out.below hb3)
  have HF3 := Lib.hid (HF2.out.below hb3)
  have HB3 := Lib.hid (bel_trans HB2.out hb3)
  clear hb3
  generalize (w2.alloc (gcells N A1 l1 q1)).alloc (gcells K A2 l2 q2) = w3 at *
  refine (sof_full (c := q1) (N : Int) w3 HE3.out).mono ?_
  rintro e w4 ⟨A4, n4, c4, xs, A4', n4', c4', r1, e1, rfl, rx, -, -, hp1, hb4⟩
  have HX14 := Lib.hid (later2 hb4 HX1.out)
  have HX24 := Lib.hid (later2 hb4 HX2.out)
  have HF4 := Lib.hid (HF3.out.below hb4)
  have RX4 := Lib.hid rx
  have HR4 : Hid (RW w3 w4) := hb4
  have HP1 := Lib.hid hp1
  clear rx hp1 hb4
  obtain ⟨x0, x1⟩ := HX14.out
  obtain ⟨x2, x3⟩ := HX24.out
  go_wp2_with fail
  refine (sof_full (c := q2) (K : Int) w4 HF4.out).mono ?_
  rintro e w5 ⟨A5, n5, c5, ys, A5', n5', c5', r2, e2, rfl, ry, -, -, hp2, hb5⟩
  have HX15 := Lib.hid (later2 hb5 HX14.out)
  have HX25 := Lib.hid (later2 hb5 HX24.out)
  have HR5 : Hid (RW w3 w5) := RW.later HR4.out hb5
  have HE5 := Lib.hid (HE3.out.below HR5.out)
  have HF5 := Lib.hid (HF4.out.below hb5)
  have RX5 := Lib.hid (RX4.out.below hb5)
  have RY5 := Lib.hid ry
  have HP2 := Lib.hid hp2
  clear ry hp2 hb5 x0 x1 x2 x3
  obtain ⟨x0, x1⟩ := HX15.out
  obtain ⟨x2, x3⟩ := HX25.out
  go_wp2_with fail
  refine (pbes_any w5 HE5.out HF5.out HRB.out HKB.out).mono ?_
  rintro e w6 ⟨A6, c6, rfl, rd6, hb6⟩
  have RX6 := Lib.hid (RX5.out.below hb6)
  have RY6 := Lib.hid (RY5.out.below hb6)
  have HR6 : Hid (RW w3 w6) := RW.later HR5.out hb6
  have RD6 := Lib.hid rd6
  clear rd6 hb6 x0 x1 x2 x3
  go_wp2_with fail
  refine (sof_full (c := c6) ((N : Int) + (K : Int)) w6 RD6.out).mono ?_
  rintro e w7 ⟨A7, n7, c7, zs7, A8, n8, c8, r3, e3, rfl, rz, rr, hc8, hp3, hb7⟩
  have RX7 := Lib.hid (RX6.out.below hb7)
  have RY7 := Lib.hid (RY6.out.below hb7)
  have HR7 : Hid (RW w3 w7) := RW.later HR6.out hb7
  have RZ7 := Lib.hid rz
  have RR7 := Lib.hid rr
  have HC8 := Lib.hid hc8
  have HEND := Lib.hid (bes_end HRB.out HKB.out (by have := HN.out; have := HK.out; omega) (by have := HN.out; have := HK.out; omega) HP1.out HP2.out hp3)
  clear rz rr hc8 hp3 hb7
  have HLX : Hid (n4 ≤ 4096) := by
    unfold Hid
    rw [← RX4.out.1]
    have := HN.out
    rcases pl_cases HRB.out HP1.out with ⟨q, -, -⟩ | ⟨q, -, -⟩
    · rw [q.1.len]; omega
    · rw [q]; simp
  have HLY : Hid (n5 ≤ 4096) := by
    unfold Hid
    rw [← RY5.out.1]
    have := HK.out
    rcases pl_cases HKB.out HP2.out with ⟨q, -, -⟩ | ⟨q, -, -⟩
    · rw [q.1.len]; omega
    · rw [q]; simp
  go_wp2_with fail
  refine (HAW.out _).mono ?_
  rintro e w8 ⟨rfl, hb8⟩
  have RX8 := Lib.hid (RX7.out.below hb8)
  have RY8 := Lib.hid (RY7.out.below hb8)
  have RZ8 := Lib.hid (RZ7.out.below hb8)
  have RR8 := Lib.hid (RR7.out.below hb8)
  have HR8 : Hid (RW w3 w8) := RW.later HR7.out hb8
  have HB8 := Lib.hid (bel_trans HB3.out HR8.out)
  have HX18 := Lib.hid (later2 HR8.out HX1.out)
  have HX28 := Lib.hid (later2 HR8.out HX2.out)
  have HE8 := Lib.hid (HE3.out.below HR8.out)
  have HF8 := Lib.hid (HF3.out.below HR8.out)
  clear hb8
  rcases HEND.out with ⟨rfl, rfl, rfl, hzs, hr3⟩ | ⟨hne, rfl, hcb, hodd, hzs⟩
  · obtain rfl : n8 = 0 := by rw [← RR8.out.1, hr3]; rfl
    have HZS := Lib.hid hzs
    clear hzs hr3
    go_wp2_with (first
      | (at_builtin; refine list_appI w8.heap.size rfl _ _ rfl (.slice none 0 0) [] xs rfl (ownI_empty _ _) (Nat.le_refl _) A4 n4 c4 rfl RX8.out (by have := HLX.out; simp; omega) ?_; intro v9 w9 own9 g9 h9; have hrw9 : RW w8 w9 := RW.grown (RW.refl w8) g9 (by intro k hk; simp [Value.ownBlock] at hk); have RY9 := Lib.hid (RY8.out.below hrw9))
      | (at_builtin; refine list_appI w8.heap.size rfl _ _ rfl v9 ([] ++ xs) ys rfl own9 (Below.size hrw9) A5 n5 c5 rfl RY9.out (by have := HLX.out; have := HLY.out; have := RX4.out.1; simp; omega) ?_; intro v10 w10 own10 g10 h10; have hrw10 : RW w8 w10 := RW.grown hrw9 g10 (row_base own9)))
    obtain ⟨A10, c10, rfl, -, -, rd10⟩ := OwnI.read own10
    have RD10 := Lib.hid rd10
    have HR10 := Lib.hid hrw10
    clear own9 own10 g9 g10 h9 h10 hrw9 hrw10 rd10
    have RZ9 : Hid (ReadI w8 A7 n7 (([] ++ xs) ++ ys)) := by
      have := RZ8.out
      rw [HZS.out] at this
      simpa [Hid] using this
    refine (plain_same (ca := c7) (cb := c10) w10 (RZ9.out.below HR10.out) RD10.out).mono ?_
    rintro e w11 ⟨rfl, hb11⟩
    have HB11 := Lib.hid (bel_trans HB8.out (RW.later HR10.out hb11))
    clear hb11
    go_wp2_with fail
    go_ret
    exact ⟨rfl, HB11.out⟩
  · have hn8 : n8 % 2 = 1 := by rw [← RR8.out.1]; exact hodd
    obtain rfl : n7 = 0 := by rw [← RZ8.out.1, hzs]; rfl
    have tm1 : ((n8 : Int)).tmod 2 = 1 := by rw [Int.tmod_eq_emod_of_nonneg (by omega)]; omega
    have tm2 : ((n8 : Int)) % 2 = 1 := by omega
    have HCB := Lib.hid hcb
    clear hcb hodd hzs hn8
    obtain ⟨x0, x1⟩ := HX18.out
    obtain ⟨x2, x3⟩ := HX28.out
    rcases hne with hne | ⟨hne, hnf⟩
    all_goals
      go_wp2_with fail
      refine (pbes_any w8 HE8.out HF8.out HRB.out HKB.out).mono ?_
      rintro e w9 ⟨A9, c9, rfl, rd9, hb9⟩
      have RD9 := Lib.hid rd9
      have RR9 := Lib.hid (RR8.out.below hb9)
      have HB9 := Lib.hid (bel_trans HB8.out hb9)
      have hfi := riscyc_any (c := c9) ((N : Int) + (K : Int)) w9 RD9.out RR9.out HC8.out
      rw [HCB.out] at hfi
      clear rd9 hb9 x0 x1 x2 x3
      go_wp2_with fail
      refine hfi.mono ?_
      rintro e w10 ⟨rfl, hb10⟩
      have HB10 := Lib.hid (bel_trans HB9.out hb10)
      clear hfi hb10
      go_wp2_with fail
      go_ret
      exact ⟨rfl, HB10.out⟩

theorem sidesBeside_walk {A B : Option Addr} {n c m d : Nat} {zs ys : List Int} (k1 k2 : Int) (w : World) (_ : -9223372036854775808 ≤ k1 ∧ k1 ≤ 9223372036854775807) (_ : -9223372036854775808 ≤ k2 ∧ k2 ≤ 9223372036854775807) (h : ReadI w A n zs) (hp : ReadI w B m ys) :
    Calls Try.prog 17 #[.int .i64 k1, .int .i64 k2, .slice A n c, .slice B m d] w fun e w' => e = .returned (.bool true) ∧ Below w.heap.size w w' := sidesBeside_any k1 k2 w h hp

end Go.Proofs.Ytnldfjoadmehcaa
