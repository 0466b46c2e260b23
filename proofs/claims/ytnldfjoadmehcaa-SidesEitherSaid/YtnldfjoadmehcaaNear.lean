/- The walk of garlandref02.Near. -/
import Derived.Test.YtnldfjoadmehcaaNone
import Derived.Test.YtnldfjoadmehcaaRight
set_option linter.unusedVariables false
set_option linter.unusedSimpArgs false
namespace Go.Proofs.Ytnldfjoadmehcaa
open Go.RowKit

/-- append(v, ys...) of numbers, run. -/
theorem run_appI (w : World) (ty : TypeId) (base : Nat) (v : Value) (xs ys : List Int) (HO : OwnI w base v xs) (hbase : base ≤ w.heap.size) (A : Option Addr) (m c : Nat) (hr : ReadI w A m ys) (hl : xs.length + m ≤ 1000000000) :
    ∃ v1 w1, (Builtin.append_ #[22, 22] ty #[v, .slice A m c]).run Try.prog w = .ok v1 w1 ∧ OwnI w1 base v1 (xs ++ ys) ∧ w.grownBy w1 v.ownBlock ∧ (v1.ownBlock = v.ownBlock ∨ v1.ownBlock = some w.heap.size) := by
  obtain ⟨i0, hi, hz0, hz1, hz2⟩ := info_parts infoInt
  cases A with
  | none =>
    have hm : m = 0 := by
      rcases Nat.eq_zero_or_pos m with h | h
      · exact h
      · obtain ⟨b, o, h, -⟩ := hr.2.2 h
        cases h
    subst hm
    have hy : ys = [] := List.eq_nil_of_length_eq_zero hr.1
    subst hy
    obtain ⟨A0, c0, rfl, hle, -, -⟩ := HO.read
    refine ⟨_, w, run_append_nothing w 22 22 ty 3 i0 Try.underlying22 hi A0 xs.length c0 hle _ (Src.ofNil w Try.underlying22 c), ?_, World.grownBy.refl _ _, .inl rfl⟩
    simpa using HO
  | some ad =>
    obtain ⟨v', w', hrun, h2, h3, _, h5⟩ := run_append_own_at (P := Try.prog) w base 22 ty 3 i0 (.int .i64 0) 1 8 Try.underlying22 hi hz0 hz1 hz2 rfl (by decide) v xs.length (nums xs) HO ad m c (nums ys) (by simp [nums, hr.1]) hr.news (by simp [nums, Value.oneCell']) (by simp only [maxLen]; omega) (by omega) hbase
    refine ⟨v', w', hrun, ?_, h3, h5⟩
    unfold OwnI nums at *
    simpa [hr.1] using h2

/-- The same in a plain region. -/
theorem list_appI {ops : Array Oper} {rest : List Oper} {o : Oper} {a : Act} {w : World} {Q : Exit → Act → World → Prop} (base : Nat) (hgd : o.guard = none) (s x : Operand)
    (ho : o.op = .call { callee := .builtin .append, args := #[s, x], argTypes := #[22, 22] }) (v : Value) (xs ys : List Int) (hs : a.eval s = v) (HO : OwnI w base v xs) (hbase : base ≤ w.heap.size)
    (A : Option Addr) (m c : Nat) (hx : a.eval x = .slice A m c) (hr : ReadI w A m ys) (hl : xs.length + m ≤ 1000000000)
    (h : ∀ v1 w1, OwnI w1 base v1 (xs ++ ys) → w.grownBy w1 v.ownBlock → (v1.ownBlock = v.ownBlock ∨ v1.ownBlock = some w.heap.size) → wpList Try.prog ops Q rest (a.put o.dst v1) w1) :
    wpList Try.prog ops Q (o :: rest) a w := by
  refine wpList_plain hgd fun K hK => ?_
  obtain ⟨v', w', hrun, h2, h3, h5⟩ := run_appI w o.type base v xs ys HO hbase A m c hr hl
  unfold Oper.wp execOp
  simp only [ho, resolve, invoke, builtin, Sem.run_bind, Sem.run_pure, Result.andThen_ok, List.map_toArray, List.map_cons, List.map_nil, hs, hx, hrun]
  exact hK _ _ (h v' w' h2 h3 h5)

theorem own_grown {W W1 : World} {base : Nat} {v : Value} {xs : List Int} {row : Option Nat} (h : OwnI W base v xs) (hg : W.grownBy W1 row) (hr : ∀ k, v.ownBlock = some k → some k ≠ row) : OwnI W1 base v xs := by
  unfold OwnI at *
  refine ⟨h.1, ?_⟩
  rcases h.2 with ⟨rfl, h0⟩ | ⟨g, cap, cur, rfl, hb, hg', r⟩
  · exact .inl ⟨rfl, h0⟩
  · exact .inr ⟨g, cap, cur, rfl, hb, (hg.block g (blk_lt hg') (hr g rfl)).trans hg', r⟩
theorem own_lt {W : World} {base : Nat} {v : Value} {xs : List Int} (h : OwnI W base v xs) {k : Nat} (hk : v.ownBlock = some k) : k < W.heap.size := by
  unfold OwnI at h
  rcases h.2 with ⟨rfl, h0⟩ | ⟨g, cap, cur, rfl, hb, hg', r⟩
  · cases hk
  · injection hk with hk
    subst hk
    exact blk_lt hg'
/-- Two rows of one's own, apart. -/
structure Two (W : World) (base : Nat) (a : Value) (xs : List Int) (b : Value) (ys : List Int) : Prop where
  one : OwnI W base a xs
  two : OwnI W base b ys
  apart : ∀ k, a.ownBlock = some k → b.ownBlock ≠ some k
theorem Two.swap {W : World} {base : Nat} {a b : Value} {xs ys : List Int} (t : Two W base a xs b ys) : Two W base b ys a xs := ⟨t.two, t.one, fun k hk e => t.apart k e hk⟩
theorem Two.first {W W1 : World} {base : Nat} {a b a1 : Value} {xs ys zs : List Int} (t : Two W base a xs b ys) (o : OwnI W1 base a1 zs) (g : W.grownBy W1 a.ownBlock)
    (hat : a1.ownBlock = a.ownBlock ∨ ∃ k, a1.ownBlock = some k ∧ W.heap.size ≤ k) : Two W1 base a1 zs b ys := by
  refine ⟨o, own_grown t.two g fun k hk e => t.apart k e.symm hk, fun k hk e => ?_⟩
  rcases hat with h | ⟨k0, h, h1⟩
  · rw [h] at hk
    exact t.apart k hk e
  · rw [h] at hk
    injection hk with hk
    have := own_lt t.two e
    omega

def lowsE (v : Int) (es : List Ed) : List Int := (es.filter (fun e => e.2 == v)).map (·.1)
def highsE (v : Int) (es : List Ed) : List Int := (es.filter (fun e => e.1 == v)).map (·.2)
theorem lowsE_le (v : Int) (es : List Ed) : (lowsE v es).length ≤ es.length := by unfold lowsE; rw [List.length_map]; exact List.length_filter_le _ _
theorem highsE_le (v : Int) (es : List Ed) : (highsE v es).length ≤ es.length := by unfold highsE; rw [List.length_map]; exact List.length_filter_le _ _
theorem takeE_succ {es : List Ed} {k : Nat} (h : k < es.length) : es.take (k + 1) = es.take k ++ [ge es k] := by
  rw [List.take_add_one, List.getElem?_eq_getElem h]
  simp [ge, List.getD_eq_getElem?_getD, h]
theorem lowsE_succ (v : Int) {es : List Ed} {k : Nat} (h : k < es.length) : lowsE v (es.take (k + 1)) = if (ge es k).2 = v then lowsE v (es.take k) ++ [(ge es k).1] else lowsE v (es.take k) := by
  rw [takeE_succ h]
  unfold lowsE
  rw [List.filter_append, List.map_append]
  by_cases q : (ge es k).2 = v
  · rw [if_pos q]
    simp [q]
  · rw [if_neg q]
    simp [q]
theorem highsE_succ (v : Int) {es : List Ed} {k : Nat} (h : k < es.length) : highsE v (es.take (k + 1)) = if (ge es k).1 = v then highsE v (es.take k) ++ [(ge es k).2] else highsE v (es.take k) := by
  rw [takeE_succ h]
  unfold highsE
  rw [List.filter_append, List.map_append]
  by_cases q : (ge es k).1 = v
  · rw [if_pos q]
    simp [q]
  · rw [if_neg q]
    simp [q]
/-- What Near answers. -/
def nearL (N : Int) (es : List Ed) (v : Int) : List Int := if rightB N es then lowsE v es ++ highsE v es else []

set_option maxHeartbeats 4000000 in
set_option maxRecDepth 100000 in
theorem near_any {A : Option Addr} {n c : Nat} {es : List Ed} (N v : Int) (w : World) (h : ReadE w A n es) :
    Calls Try.prog 77 #[.agg #[.int .i64 N, .slice A n c], .int .i64 v] w fun e w' => ∃ u, e = .returned u ∧ OwnI w' w.heap.size u (nearL N es v) ∧ Below w.heap.size w w' := by
  have hb1 := bel_alloc w (gcells N A n c)
  obtain ⟨x0, x1⟩ := boxg w N A n c
  have hr := right_any (c := c) N (w.alloc (gcells N A n c)) (h.below hb1)
  have HB1 := Lib.hid hb1
  have HX := Lib.hid (And.intro x0 x1)
  have HE := Lib.hid h
  have HL := Lib.hid h.1
  have hn := h.2.1
  clear hb1 h
  go_enter Try.func77, Try.ntmps77
  go_wp2_with fail
  refine hr.mono ?_
  rintro e w2 ⟨rfl, hb2⟩
  have HB2 := Lib.hid (bel_trans HB1.out hb2)
  have HX2 := Lib.hid (And.intro (cell_later hb2 HX.out.1) (cell_later hb2 HX.out.2))
  have HE2 := Lib.hid (HE.out.below HB2.out)
  clear hb2 hr x0 x1
  cases hR : rightB N es
  · have HN : Hid (nearL N es v = []) := by unfold Hid nearL; rw [hR]; rfl
    clear hR
    go_wp2_with fail
    go_ret
    rw [HN.out]
    exact ⟨_, rfl, ownI_empty _ _, HB2.out⟩
  · have HN : Hid (nearL N es v = lowsE v (es.take n) ++ highsE v (es.take n)) := by
      unfold Hid nearL
      rw [hR, if_pos rfl, List.take_of_length_le (by have := HL.out; omega)]
    have HLE : Hid (es.length ≤ 65536) := (rightB_iff.1 hR).2.2.1
    have HT0 : Hid (Two w2 w2.heap.size (.slice none 0 0) (lowsE v (es.take 0)) (.slice none 0 0) (highsE v (es.take 0))) := ⟨by rw [List.take_zero]; exact ownI_empty _ _, by rw [List.take_zero]; exact ownI_empty _ _, fun k hk => by cases hk⟩
    have HR0 : Hid (RW w2 w2) := RW.refl w2
    clear hR
    go_wp2_with fail
    go_loopw [5, 6, 7] (fun a b i wr => ∃ k : Nat, k ≤ n ∧ i = .int .i64 k ∧ Hid (Two wr w2.heap.size a (lowsE v (es.take k)) b (highsE v (es.take k))) ∧ Hid (RW w2 wr)) (fun _ _ i _ => n - (intOf i).toNat)
    case atStart => exact ⟨0, Nat.zero_le _, rfl, HT0, HR0⟩
    case round =>
      obtain ⟨k, hk, rfl, htw, hrw⟩ := hrel
      have y1 := cell_later hrw.out HX2.out.2
      have HER := HE2.out.below hrw.out
      have HSZ := Lib.hid (Below.size hrw.out)
      by_cases hlt : k < n
      · obtain ⟨b, o, rfl, hc⟩ := HE2.out.2.2 (by omega)
        obtain ⟨hc1, hc2⟩ := hc k hlt
        have S1 := lowsE_succ v (es := es) (k := k) (by have := HL.out; omega)
        have S2 := highsE_succ v (es := es) (k := k) (by have := HL.out; omega)
        have L1 : Hid ((lowsE v (es.take k)).length ≤ 1000000000) := by
          have := lowsE_le v (es.take k)
          have := HLE.out
          rw [List.length_take] at *
          unfold Hid
          omega
        have L2 : Hid ((highsE v (es.take k)).length ≤ 1000000000) := by
          have := highsE_le v (es.take k)
          have := HLE.out
          rw [List.length_take] at *
          unfold Hid
          omega
        have HLT := Lib.hid hlt
        clear hc
        generalize ge es k = ek at *
        obtain ⟨e1, e2⟩ := ek
        simp only [] at hc1 hc2 S1 S2
        have HC2 := Lib.hid (And.intro hc1 hc2)
        replace hc1 := cell_later hrw.out hc1
        replace hc2 := cell_later hrw.out hc2
        have HS1 := Lib.hid S1
        have HS2 := Lib.hid S2
        clear S1 S2
        cases q1 : (e2 == v) <;> cases q2 : (e1 == v)
        · have HT8 : Hid (Two wr w2.heap.size u5 (lowsE v (es.take (k + 1))) u6 (highsE v (es.take (k + 1)))) := by
            rw [HS1.out, HS2.out, if_neg (by simpa using q1), if_neg (by simpa using q2)]
            exact htw.out
          clear htw
          go_wp2_with fail
          go_roundw
          case rel => exact ⟨k + 1, by have := HLT.out; omega, by go_num, HT8, hrw⟩
          case measure => have := HLT.out; simp [intOf]; omega
        · have HQ : Hid (lowsE v (es.take (k + 1)) = lowsE v (es.take k) ∧ highsE v (es.take (k + 1)) = highsE v (es.take k) ++ [e2]) := by
            unfold Hid
            rw [HS1.out, HS2.out, if_neg (by simpa using q1), if_pos (by simpa using q2)]
            exact ⟨rfl, rfl⟩
          go_wp2_with (at_builtin; refine app_int (w0 := wr) (W := wr) w2.heap.size rfl _ _ rfl u6 (highsE v (es.take k)) e2 rfl rfl htw.out.two (Below.refl _ _) HSZ.out L2.out ?_; intro v1 w8 o1 b1 g1 h1)
          have HR8 : Hid (RW w2 w8) := Below.trans hrw.out b1
          have HT8 : Hid (Two w8 w2.heap.size u5 (lowsE v (es.take (k + 1))) v1 (highsE v (es.take (k + 1)))) := by
            rw [HQ.out.1, HQ.out.2]
            exact (htw.out.swap.first o1 g1 h1).swap
          go_roundw
          case rel => exact ⟨k + 1, by have := HLT.out; omega, by go_num, HT8, HR8⟩
          case measure => have := HLT.out; simp [intOf]; omega
        · have HQ : Hid (lowsE v (es.take (k + 1)) = lowsE v (es.take k) ++ [e1] ∧ highsE v (es.take (k + 1)) = highsE v (es.take k)) := by
            unfold Hid
            rw [HS1.out, HS2.out, if_pos (by simpa using q1), if_neg (by simpa using q2)]
            exact ⟨rfl, rfl⟩
          go_wp2_with (at_builtin; refine app_int (w0 := wr) (W := wr) w2.heap.size rfl _ _ rfl u5 (lowsE v (es.take k)) e1 rfl rfl htw.out.one (Below.refl _ _) HSZ.out L1.out ?_; intro v1 w8 o1 b1 g1 h1; have HR8 : Hid (RW w2 w8) := Below.trans hrw.out b1; have z1 := cell_later HR8.out HX2.out.2; have z2 := cell_later HR8.out HC2.out.1; have z3 := cell_later HR8.out HC2.out.2; have HT8 := Lib.hid (htw.out.first o1 g1 h1))
          have HT9 : Hid (Two w8 w2.heap.size v1 (lowsE v (es.take (k + 1))) u6 (highsE v (es.take (k + 1)))) := by
            rw [HQ.out.1, HQ.out.2]
            exact HT8.out
          go_roundw
          case rel => exact ⟨k + 1, by have := HLT.out; omega, by go_num, HT9, HR8⟩
          case measure => have := HLT.out; simp [intOf]; omega
        · have HQ : Hid (lowsE v (es.take (k + 1)) = lowsE v (es.take k) ++ [e1] ∧ highsE v (es.take (k + 1)) = highsE v (es.take k) ++ [e2]) := by
            unfold Hid
            rw [HS1.out, HS2.out, if_pos (by simpa using q1), if_pos (by simpa using q2)]
            exact ⟨rfl, rfl⟩
          go_wp2_with (first | (at_builtin; refine app_int (w0 := wr) (W := wr) w2.heap.size rfl _ _ rfl u5 (lowsE v (es.take k)) e1 rfl rfl htw.out.one (Below.refl _ _) HSZ.out L1.out ?_; intro v1 w8 o1 b1 g1 h1; have HR8 : Hid (RW w2 w8) := Below.trans hrw.out b1; have z1 := cell_later HR8.out HX2.out.2; have z2 := cell_later HR8.out HC2.out.1; have z3 := cell_later HR8.out HC2.out.2; have HT8 := Lib.hid (htw.out.first o1 g1 h1)) | (at_builtin; refine app_int (w0 := w8) (W := w8) w2.heap.size rfl _ _ rfl u6 (highsE v (es.take k)) e2 rfl rfl HT8.out.two (Below.refl _ _) (Below.size HR8.out) L2.out ?_; intro v2 w9 o2 b2 g2 h2) | fail)
          have HT9 : Hid (Two w9 w2.heap.size v1 (lowsE v (es.take (k + 1))) v2 (highsE v (es.take (k + 1)))) := by
            rw [HQ.out.1, HQ.out.2]
            exact (HT8.out.swap.first o2 g2 h2).swap
          have HR9 : Hid (RW w2 w9) := Below.trans HR8.out b2
          go_roundw
          case rel => exact ⟨k + 1, by have := HLT.out; omega, by go_num, HT9, HR9⟩
          case measure => have := HLT.out; simp [intOf]; omega
      · obtain rfl : k = n := by omega
        obtain ⟨A', c', e', hc', -, hR'⟩ := OwnI.read htw.out.two
        subst e'
        have HTW := htw
        have HRD := Lib.hid hR'
        have HLN : Hid ((lowsE v (es.take k)).length + (highsE v (es.take k)).length ≤ 1000000000) := by
          have h1 := lowsE_le v (es.take k)
          have h2 := highsE_le v (es.take k)
          have := HLE.out
          rw [List.length_take] at *
          unfold Hid
          omega
        have hd : decide ((k : Int) < (k : Int)) = false := by rw [decide_eq_false_iff_not]; omega
        clear hlt hk hR' hc' HER
        go_wp2_with (at_builtin; refine list_appI w2.heap.size rfl _ _ rfl u5 (lowsE v (es.take k)) (highsE v (es.take k)) rfl htw.out.one HSZ.out A' (highsE v (es.take k)).length c' rfl HRD.out HLN.out ?_; intro v1 w8 o1 g1 h1)
        go_ret
        rw [HN.out]
        exact ⟨_, rfl, row_weaken o1 (Below.size HB2.out), bel_trans HB2.out (RW.grown hrw.out g1 (row_base htw.out.one))⟩

end Go.Proofs.Ytnldfjoadmehcaa
