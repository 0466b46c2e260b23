/- The walk of BitsPlay. -/
import Derived.Test.YtnldfjoadmehcaaDoorPlay1
import Derived.Deep.Upon
set_option linter.unusedVariables false
set_option linter.unusedSimpArgs false
namespace Go.Proofs.YtnldfjoadmehcaaDoor
open Go.RowKit Bs

/-- The boxes of n and of in, and the row of in. -/
structure PI (w : World) (M T G : Nat) (f : Nat → Bool) (W : World) : Prop where
  bel : Below w.heap.size w W
  bn : W.heap[w.heap.size]? = some (.cells #[.int .i64 M] 3 (0, 0))
  bi : W.heap[T]? = some (.cells #[.slice (some ⟨G, 0, none⟩) M M] 36 (0, 0))
  row : RowF W G 4 M (fun j => .bool (f j))
  tG : T ≠ G
  tw : w.heap.size < T
  gw : w.heap.size < G
/-- A block of its own. -/
def PD (w : World) (T G x : Nat) : Prop := w.heap.size < x ∧ x ≠ T ∧ x ≠ G
section
variable {w W W' : World} {M T G : Nat} {f : Nat → Bool}
theorem PI.later (p : PI w M T G f W) (g : RW W W') : PI w M T G f W' :=
  ⟨bel_trans p.bel g, blk_later p.bn g, blk_later p.bi g, p.row.later g, p.tG, p.tw, p.gw⟩
theorem PI.grown {h : Nat} (p : PI w M T G f W) (g : W.grownBy W' (some h)) (d : PD w T G h) : PI w M T G f W' := by
  refine ⟨Below.grown p.bel g (Below.size p.bel) (fun k hk => by injection hk with e; have := d.1; omega), ?_, ?_, p.row.grown g (by simpa using fun e => d.2.2 e.symm), p.tG, p.tw, p.gw⟩
  · exact (g.block _ (blk_lt p.bn) (by simpa using fun e => by have := d.1; omega)).trans p.bn
  · exact (g.block _ (blk_lt p.bi) (by simpa using fun e => d.2.1 e.symm)).trans p.bi
theorem PI.set (p : PI w M T G f W) (k : Nat) (b : Bool) : PI w M T G (fun i => if i = k then b else f i) (W.setCell ⟨G, k, none⟩ (.bool b)) := by
  refine ⟨Below.setCell p.bel (Nat.le_of_lt p.gw) _, ?_, ?_, (p.row.set k (.bool b)).congr fun j _ => by split <;> rfl, p.tG, p.tw, p.gw⟩
  · rw [Below.heap_setCell _ _ _ _ (by have := p.gw; simp; omega)]
    exact p.bn
  · rw [Below.heap_setCell _ _ _ _ (by simpa using p.tG)]
    exact p.bi
theorem PI.congr {f' : Nat → Bool} (p : PI w M T G f W) (h : ∀ j, j < M → f j = f' j) : PI w M T G f' W :=
  ⟨p.bel, p.bn, p.bi, p.row.congr fun j hj => by rw [h j hj], p.tG, p.tw, p.gw⟩
theorem PI.cells (p : PI w M T G f W) : W.cell? ⟨w.heap.size, 0, none⟩ = some (.int .i64 M) ∧ W.cell? ⟨T, 0, none⟩ = some (.slice (some ⟨G, 0, none⟩) M M) := ⟨(cell_blk p.bn 0).trans rfl, (cell_blk p.bi 0).trans rfl⟩
theorem PI.szT (p : PI w M T G f W) : T < W.heap.size ∧ G < W.heap.size ∧ w.heap.size < W.heap.size := ⟨blk_lt p.bi, p.row.lt, blk_lt p.bn⟩
end

/-- The least number from k on that is in, and not below ask. -/
def leastF (f : Nat → Bool) (ask : Int) : Nat → Nat → Int
  | 0, _ => -1
  | d + 1, k => if f k && decide (ask ≤ (k : Int)) then (k : Int) else leastF f ask d (k + 1)
theorem leastF_above (f : Nat → Bool) (ask : Int) : ∀ d k : Nat, ask ≤ (k : Int) → leastF f ask d k = scan f d k
  | 0, _, _ => rfl
  | d + 1, k, h => by
    rw [leastF, scan, leastF_above f ask d (k + 1) (by omega), decide_eq_true h, Bool.and_true]
theorem leastF_skip (f : Nat → Bool) (ask : Int) : ∀ n d k : Nat, (k : Int) + n ≤ ask → leastF f ask (d + n) k = leastF f ask d (k + n)
  | 0, d, k, _ => rfl
  | n + 1, d, k, h => by
    rw [show d + (n + 1) = (d + n) + 1 from by omega, leastF, decide_eq_false (by omega), Bool.and_false, if_neg (by decide), leastF_skip f ask n d (k + 1) (by omega), show k + 1 + n = k + (n + 1) from by omega]
theorem leastF_is (f : Nat → Bool) (ask : Int) (M : Nat) : leastF f ask M 0 = least f M ask := by
  unfold least
  by_cases h : ask.toNat ≤ M
  · by_cases h0 : 0 ≤ ask
    · have := leastF_skip f ask ask.toNat (M - ask.toNat) 0 (by omega)
      rw [Nat.sub_add_cancel h, Nat.zero_add] at this
      rw [this, leastF_above f ask _ _ (by omega)]
    · rw [show ask.toNat = 0 from by omega, Nat.sub_zero]
      exact leastF_above f ask M 0 (by omega)
  · have := leastF_skip f ask M 0 0 (by omega)
    rw [Nat.zero_add] at this
    rw [this, show M - ask.toNat = 0 from by omega]
    rfl
/-- append([]int{k}, l...). -/
theorem list_cons {ops : Array Oper} {rest : List Oper} {o : Oper} {a : Act} {W : World} {Q : Exit → Act → World → Prop} (base : Nat) (hgd : o.guard = none) (s x : Operand)
    (ho : o.op = .call { callee := .builtin .append, args := #[s, x], argTypes := #[28, 28] }) (k : Int) (ll : List Int) (A : Option Addr) (c : Nat)
    (hs : a.eval s = .slice (some ⟨W.heap.size, 0, none⟩) 1 1) (hx : a.eval x = .slice A ll.length c) (hr : ReadI W A ll.length ll) (hb : base ≤ W.heap.size) (hl : ll.length ≤ 1000000)
    (h : ∀ v1 w1, OwnI w1 base v1 (k :: ll) → Below W.heap.size W w1 → wpList Tryd.prog ops Q rest (a.put o.dst v1) w1) :
    wpList Tryd.prog ops Q (o :: rest) a (W.alloc (.cells #[.int .i64 k] 3)) := by
  obtain ⟨i0, hi, hz0, hz1, hz2⟩ := info_parts infoInt
  have hown : OwnI (W.alloc (.cells #[.int .i64 k] 3)) W.heap.size (.slice (some ⟨W.heap.size, 0, none⟩) 1 1) [k] :=
    ⟨rfl, .inr ⟨W.heap.size, 1, #[.int .i64 k], rfl, Nat.le_refl _, heap_alloc_new _ _, Nat.le_refl _, by decide, rfl, rfl⟩⟩
  have hrA := hr.below (bel_alloc W (.cells #[.int .i64 k] 3))
  refine wpList_plain hgd fun K hK => ?_
  cases A with
  | none =>
    have hm : ll.length = 0 := by
      rcases Nat.eq_zero_or_pos ll.length with h | h
      · exact h
      · obtain ⟨b, o, h, -⟩ := hr.2.2 h
        cases h
    have hy : ll = [] := List.eq_nil_of_length_eq_zero hm
    subst hy
    have hrun := run_append_nothing (W.alloc (.cells #[.int .i64 k] 3)) 28 28 o.type 3 i0 Tryd.underlying28 hi (some ⟨W.heap.size, 0, none⟩) 1 1 (Nat.le_refl _) _ (Src.ofNil (W.alloc (.cells #[.int .i64 k] 3)) Tryd.underlying28 c)
    unfold Oper.wp
    simp only [List.length_nil] at hx
    simp [execOp, ho, resolve, invoke, builtin, hs, hx, hrun, Result.andThen]
    exact hK _ _ (h _ _ (row_weaken hown hb) (bel_alloc _ _))
  | some ad =>
    obtain ⟨v', w', hrun, h2, h3, _, h5⟩ := run_append_own_at (P := Tryd.prog) (W.alloc (.cells #[.int .i64 k] 3)) W.heap.size 28 o.type 3 i0 (.int .i64 0) 1 8 Tryd.underlying28 hi hz0 hz1 hz2 rfl (by decide) (.slice (some ⟨W.heap.size, 0, none⟩) 1 1) 1 (nums [k]) hown ad ll.length c (nums ll) (by simp [nums]) hrA.news (by simp [nums, Value.oneCell']) (by simp only [maxLen]; omega) (by omega) (by simp)
    unfold Oper.wp
    simp [execOp, ho, resolve, invoke, builtin, hs, hx, hrun, Result.andThen]
    refine hK _ _ (h _ _ (row_weaken ?_ hb) ?_)
    · unfold OwnI nums at *
      simpa [Nat.add_comm] using h2
    · exact Below.grown (bel_alloc _ _) h3 (by simp) (fun k' hk => by simp [Value.ownBlock] at hk; omega)
theorem put_step {ll : List Int} {q zn : Nat} (M : Nat) (f : Nat → Bool) (h : q < ll.length) (hz : gi ll q = (zn : Int)) :
    ((decide (zn < M) && !(run_put M f (ll.take q)).2 zn) = true → (run_put M f (ll.take (q + 1))).1 = (run_put M f (ll.take q)).1 + 1 ∧ ∀ j, j < M → (if j = zn then true else (run_put M f (ll.take q)).2 j) = (run_put M f (ll.take (q + 1))).2 j) ∧
    ((decide (zn < M) && !(run_put M f (ll.take q)).2 zn) = false → (run_put M f (ll.take (q + 1))).1 = (run_put M f (ll.take q)).1 ∧ ∀ j, j < M → (run_put M f (ll.take q)).2 j = (run_put M f (ll.take (q + 1))).2 j) := by
  rw [take_succ_eq h, run_put_snoc, hz]
  generalize run_put M f (ll.take q) = p
  obtain ⟨x, fq⟩ := p
  simp only []
  have hb : putB M fq (zn : Int) = (decide (zn < M) && !fq zn) := by
    unfold putB
    simp only [Int.toNat_natCast]
    congr 1
    rw [decide_eq_decide]
    omega
  rw [hb]
  constructor
  · intro hc
    rw [if_pos hc]
    refine ⟨rfl, fun j hj => ?_⟩
    unfold putF
    by_cases e : j = zn
    · subst e
      simp [hj]
    · rw [if_neg e]
      have : ¬ (j : Int) = (zn : Int) := by omega
      simp [this]
  · intro hc
    rw [if_neg (by rw [hc]; decide)]
    refine ⟨rfl, fun j hj => ?_⟩
    unfold putF
    by_cases e : j = zn
    · subst e
      simp [hj] at hc
      simp [hc]
    · have : ¬ (j : Int) = (zn : Int) := by omega
      simp [this]
theorem drop_step {ll : List Int} {q zn : Nat} (M : Nat) (f : Nat → Bool) (hfo : ∀ j, M ≤ j → f j = false) (hnd : ll.Nodup) (h : q < ll.length) (hz : gi ll q = (zn : Int)) :
    ((decide (zn < M) && (run_drop M f (ll.take q)).2 zn) = true → (run_drop M f (ll.take (q + 1))).1 = (run_drop M f (ll.take q)).1 + 1 ∧ ∀ j, j < M → (if j = zn then false else (run_drop M f (ll.take q)).2 j) = (run_drop M f (ll.take (q + 1))).2 j) ∧
    ((decide (zn < M) && (run_drop M f (ll.take q)).2 zn) = false → (run_drop M f (ll.take (q + 1))).1 = (run_drop M f (ll.take q)).1 ∧ ∀ j, j < M → (run_drop M f (ll.take q)).2 j = (run_drop M f (ll.take (q + 1))).2 j) := by
  have hout : ∀ j, M ≤ j → (run_drop M f (ll.take q)).2 j = false := fun j hj => by
    rw [run_drop_is M f _ (hnd.sublist (List.take_sublist _ _))]
    simp [hfo j hj]
  rw [take_succ_eq h, run_drop_snoc, hz]
  generalize run_drop M f (ll.take q) = p at *
  obtain ⟨x, fq⟩ := p
  simp only [] at hout ⊢
  have hb : hasI fq (zn : Int) = (decide (zn < M) && fq zn) := by
    unfold hasI
    simp only [Int.toNat_natCast]
    by_cases e : zn < M
    · simp [e]
    · rw [hout zn (by omega)]
      simp
  rw [hb]
  constructor
  · intro hc
    rw [if_pos hc]
    refine ⟨rfl, fun j hj => ?_⟩
    unfold delF
    by_cases e : j = zn
    · subst e
      simp
    · rw [if_neg e]
      have : ¬ (j : Int) = (zn : Int) := by omega
      simp [this]
  · intro hc
    rw [if_neg (by rw [hc]; decide)]
    refine ⟨rfl, fun j hj => ?_⟩
    unfold delF
    by_cases e : j = zn
    · subst e
      simp [hj] at hc
      simp [hc]
    · have : ¬ (j : Int) = (zn : Int) := by omega
      simp [this]

set_option maxHeartbeats 100000000 in
set_option maxRecDepth 100000 in
theorem play_law {A : Option Addr} {n c : Nat} {ops : List Opd} (N ask : Int) (w : World) (ho : ReadO w A n ops) (hT : TabAt w) :
    Calls Tryd.prog 5 #[.int .i64 N, .slice A n c, .int .i64 ask] w fun e w' => e = .returned (.bool true) ∧ Below w.heap.size w w' := by
  have hn := ho.2.1
  have hm : 0 ≤ wrap64 ((IntKind.u64.wrap N).tmod 300) ∧ wrap64 ((IntKind.u64.wrap N).tmod 300) < 300 := by
    have h0 : 0 ≤ IntKind.u64.wrap N := by rw [IntKind.wrap_u64]; omega
    have h1 := Int.tmod_lt_of_pos (IntKind.u64.wrap N) (show (0 : Int) < 300 by omega)
    have h2 := Int.tmod_nonneg 300 h0
    unfold wrap64
    omega
  go_enter Tryd.func5, Tryd.ntmps5
  go_wp2_with fail
  generalize wrap64 ((IntKind.u64.wrap N).tmod 300) = m at *
  obtain ⟨M, rfl⟩ : ∃ M : Nat, m = M := ⟨m.toNat, by omega⟩
  have HM : Hid (M < 300) := by unfold Hid; omega
  have hro : roomOf M = M := by unfold roomOf; have := HM.out; omega
  have hnew := new_any M (w.alloc (.cells #[.int .i64 M] 3))
  rw [hro] at hnew
  have HBN0 : Hid ((w.alloc (.cells #[.int .i64 M] 3)).heap[w.heap.size]? = some (.cells #[.int .i64 M] 3 (0, 0))) := heap_alloc_new _ _
  have HB0 := Lib.hid (bel_alloc w (.cells #[.int .i64 M] 3))
  have HS0 : Hid ((w.alloc (.cells #[.int .i64 M] 3)).heap.size = w.heap.size + 1) := by unfold Hid; simp
  clear hm hro
  refine hnew.mono ?_
  rintro e w1 ⟨g, h, rfl, hset1, hb1, hg1, hh1⟩
  have HSET1 := Lib.hid hset1
  have HGH : Hid (w.heap.size < g ∧ w.heap.size < h) := by have := HS0.out; unfold Hid; omega
  have HB1 := Lib.hid (bel_trans HB0.out hb1)
  have HBN1 := Lib.hid (blk_later HBN0.out hb1)
  have HT1 := Lib.hid (hT.below HB1.out)
  generalize w.alloc (.cells #[.int .i64 M] 3) = wz at *
  clear hnew hset1 hb1 hg1 hh1
  go_wp2_with fail
  refine (awake_any w1 HT1.out).mono ?_
  rintro e w2 ⟨rfl, hb2⟩
  have HB2 := Lib.hid (bel_trans HB1.out hb2)
  have HSET2 := Lib.hid (HSET1.out.below hb2)
  have hbn2 := blk_later HBN1.out hb2
  have hmk := run_make_row' 36 4 (.bool false) 1 Tryd.underlying36 (by kernel_rfl) rfl .i64 .i64 M (by have := HM.out; omega) (by have := HM.out; omega) w2
  have hcn := (cell_blk hbn2 0).trans rfl
  have HPI0 : Hid (PI w M (w2.heap.size + 1) w2.heap.size (fun _ => false) ((w2.alloc (.cells (madeCells #[.bool false] M) 4)).alloc (.cells #[.slice (some ⟨w2.heap.size, 0, none⟩) M M] 36))) := by
    have hbA := bel_alloc w2 (.cells (madeCells #[.bool false] M) 4)
    have hbB := bel_alloc (w2.alloc (.cells (madeCells #[.bool false] M) 4)) (.cells #[.slice (some ⟨w2.heap.size, 0, none⟩) M M] 36)
    refine ⟨bel_trans (bel_trans HB2.out hbA) hbB, blk_later (blk_later hbn2 hbA) hbB, ?_, (RowF.made w2 M 4 (.bool false)).later hbB, by omega, ?_, ?_⟩
    · have := heap_alloc_new (w2.alloc (.cells (madeCells #[.bool false] M) 4)) (.cells #[.slice (some ⟨w2.heap.size, 0, none⟩) M M] 36)
      simpa using this
    · have := blk_lt hbn2; omega
    · exact blk_lt hbn2
  have HSET3 : Hid (SetAt ((w2.alloc (.cells (madeCells #[.bool false] M) 4)).alloc (.cells #[.slice (some ⟨w2.heap.size, 0, none⟩) M M] 36)) g h M (fun _ => false)) := (HSET2.out.below (bel_alloc _ _)).below (bel_alloc _ _)
  have HPD : Hid (PD w (w2.heap.size + 1) w2.heap.size g ∧ PD w (w2.heap.size + 1) w2.heap.size h) := by
    have h1 := HSET2.out.lt
    have h2 := HSET2.out.wlt
    have h3 := HGH.out
    exact ⟨⟨h3.1, by omega, by omega⟩, ⟨h3.2, by omega, by omega⟩⟩
  clear hb2 hbn2
  go_wp2_with fail
  clear hmk hcn
  generalize w2.heap.size + 1 = T at *
  generalize w2.heap.size = G at *
  go_loopw [7, 10] (fun s i wr => ∃ (k : Nat) (g h : Nat) (f : Nat → Bool), k ≤ n ∧ k ≤ 60 ∧ s = .pointer (some ⟨g, 0, none⟩) ∧ i = .int .i64 k ∧ Hid (SetAt wr g h M f) ∧ Hid (PI w M T G f wr) ∧ Hid (PD w T G g ∧ PD w T G h)) (fun _ i _ => 60 - (intOf i).toNat)
  case atStart => exact ⟨0, g, h, fun _ => false, Nat.zero_le _, by omega, rfl, rfl, HSET3, HPI0, HPD⟩
  case round =>
    obtain ⟨k, g, h, f, hk, hk6, rfl, rfl, hset, hpi, hpd⟩ := hrel
    have hcb := hpi.out.cells
    by_cases hlt : k < n ∧ k < 60
    · obtain ⟨hlt1, hlt2⟩ := hlt
      obtain ⟨b, o, rfl, hcs⟩ := ho.2.2 (by omega)
      obtain ⟨c0, c1, c2, hL, hLc⟩ := hcs k hlt1
      have c0 := cell_later hpi.out.bel c0
      have c1 := cell_later hpi.out.bel c1
      have c2 := cell_later hpi.out.bel c2
      have hL := hL.below hpi.out.bel
      generalize go ops k = od at *
      obtain ⟨kd, K, LA, Ln, Lc, xs⟩ := od
      simp only [] at c0 c1 c2 hL hLc
      have hki : (0 : Int) ≤ (k : Int) ∧ (k : Int) < (n : Int) := by omega
      have hd1 : decide ((k : Int) < (n : Int)) = true := by rw [decide_eq_true_eq]; omega
      have hd2 : decide ((k : Int) < 60) = true := by rw [decide_eq_true_eq]; omega
      have HLT := Lib.hid (And.intro hlt1 hlt2)
      have HLC := Lib.hid hLc
      have hbA := bel_alloc wr (.cells #[.int .i64 kd, .int .i64 K, .slice LA Ln Lc] 38)
      have hma := made_any (c := Lc) 400 _ (hL.below hbA)
      rw [show roomOf 400 = 400 from by decide] at hma
      have HOB : Hid ((wr.alloc (.cells #[.int .i64 kd, .int .i64 K, .slice LA Ln Lc] 38)).heap[wr.heap.size]? = some (.cells #[.int .i64 kd, .int .i64 K, .slice LA Ln Lc] 38 (0, 0))) := heap_alloc_new _ _
      have HSA := Lib.hid (hset.out.below hbA)
      have HPA := Lib.hid (hpi.out.later hbA)
      have HLA := Lib.hid (hL.below hbA)
      have HOS : Hid (w.heap.size < wr.heap.size ∧ T < wr.heap.size ∧ G < wr.heap.size ∧ g < wr.heap.size ∧ h < wr.heap.size) := ⟨hpi.out.szT.2.2, hpi.out.szT.1, hpi.out.szT.2.1, hset.out.lt, hset.out.wlt⟩
      clear hbA hLc hlt1 hlt2 hcs hL hset hpi hk
      go_wp2_with fail
      refine hma.mono ?_
      rintro e w3 ⟨gt, ht, rfl, hst, hb3, hgt, hht⟩
      have HST3 := Lib.hid hst
      have HOB3 := Lib.hid (blk_later HOB.out hb3)
      have HSA3 := Lib.hid (HSA.out.below hb3)
      have HPA3 := Lib.hid (HPA.out.later hb3)
      have HLA3 := Lib.hid (HLA.out.below hb3)
      have HGT : Hid (wr.heap.size < gt ∧ wr.heap.size < ht) := by simp at hgt hht; unfold Hid; omega
      clear hma hst hb3 hgt hht HOB HSA HPA HLA c0 c1 c2 hd1 hd2 hcb
      generalize hft : memF 400 (xs.take 60) = ft at *
      have HFT := Lib.hid hft
      clear hft
      have HOW : Hid (h < w3.heap.size ∧ G < w3.heap.size) := ⟨HSA3.out.wlt, HPA3.out.szT.2.1⟩
      generalize wr.heap.size = OB at *
      go_wp2_with fail
      go_loopw [13, 14] (fun v i wx => ∃ q : Nat, q ≤ 400 ∧ i = .int .i64 q ∧ Hid (OwnI wx w3.heap.size v (listOf ft q)) ∧ Hid (RW w3 wx)) (fun v i _ => 400 - (intOf i).toNat)
      case atStart => exact ⟨0, by omega, rfl, World.ownsRow_nil _ _ _ _, RW.refl w3⟩
      case round =>
        obtain ⟨q, hq, rfl, hown, hrw⟩ := hrel
        obtain ⟨A7, n7, c7, rfl⟩ := OwnI.shape hown.out
        have hob := blk_later HOB3.out hrw.out
        have o0 := (cell_blk hob 0).trans rfl
        have o1 := (cell_blk hob 1).trans rfl
        have o2 := (cell_blk hob 2).trans rfl
        by_cases hlq : q < 400
        · have hqd : decide ((q : Int) < 400) = true := by rw [decide_eq_true_eq]; omega
          obtain ⟨mm, hmm⟩ : ∃ mm, mm = min Ln 60 := ⟨_, rfl⟩
          have hcut := fun W => cut_to LA Ln Lc mm (mm : Int) rfl (by have := HLC.out; omega) W
          have htk := ReadI.take (HLA3.out.below hrw.out) mm (by omega)
          have hxt : xs.take mm = xs.take 60 := by
            have := HLA3.out.1
            rw [hmm]
            by_cases q : Ln ≤ 60
            · rw [Nat.min_eq_left q, List.take_of_length_le (by omega), List.take_of_length_le (by omega)]
            · rw [Nat.min_eq_right (by omega)]
          rw [hxt] at htk
          have hin := in_any (c := Lc) (q : Int) wr htk
          have HS : Hid (listOf ft (q + 1) = if decide ((q : Int) ∈ xs.take 60) then listOf ft q ++ [(q : Int)] else listOf ft q) := by
            unfold Hid
            rw [listOf_succ, ← HFT.out]
            unfold memF
            by_cases q' : (q : Int) ∈ xs.take 60
            · simp [q', hlq]
            · simp [q']
          have HSZ := Lib.hid (Below.size hrw.out)
          have HLN : Hid ((listOf ft q).length ≤ 400) := by
            have := lst_length ft q 0
            unfold Hid listOf
            omega
          have HLQ := Lib.hid hlq
          have HMM := Lib.hid hmm
          have hq4 : q < 400 := hlq
          clear htk hxt hq hob
          by_cases hle : Ln ≤ 60
          · as_aux_lemma =>
              obtain rfl : mm = Ln := by omega
              clear hmm
              cases hmem : decide ((q : Int) ∈ xs.take 60)
              · rw [hmem] at hin
                have HS2 : Hid (listOf ft (q + 1) = listOf ft q) := by have := HS.out; rw [hmem] at this; exact this
                clear hmem HS HMM
                go_wp2_with fail
                refine hin.mono ?_
                rintro e w9 ⟨rfl, rfl⟩
                go_wp2_with fail
                go_roundw
                case rel => exact ⟨q + 1, by have := HLQ.out; omega, by go_num, by rw [HS2.out]; exact hown, hrw⟩
                case measure => have := HLQ.out; simp [intOf]; omega
              · rw [hmem] at hin
                have HS2 : Hid (listOf ft (q + 1) = listOf ft q ++ [(q : Int)]) := by have := HS.out; rw [hmem] at this; exact this
                clear hmem HS HMM
                generalize listOf ft q = ll at *
                go_wp2_with fail
                refine hin.mono ?_
                rintro e w9 ⟨rfl, rfl⟩
                go_wp2_with (at_builtin; refine app_intz (W := wr) w3.heap.size wr.heap.size rfl rfl _ _ rfl (.slice A7 n7 c7) ll (q : Int) rfl rfl hown.out HSZ.out (by have := HLN.out; omega) ?_; intro v1 w8 own8 hB8 hg8)
                have HR8 : Hid (RW w3 w8) := Below.trans hrw.out hB8
                go_roundw
                case rel => exact ⟨q + 1, by have := HLQ.out; omega, by go_num, by rw [HS2.out]; exact own8, HR8⟩
                case measure => have := HLQ.out; simp [intOf]; omega
          · as_aux_lemma =>
              obtain rfl : mm = 60 := by omega
              have hcut2 := fun W => cut_to LA Ln Lc 60 (60 : Int) rfl (by have := HLC.out; omega) W
              have hle2 : 60 ≤ Ln := by omega
              clear hmm hcut
              cases hmem : decide ((q : Int) ∈ xs.take 60)
              · rw [hmem] at hin
                have HS2 : Hid (listOf ft (q + 1) = listOf ft q) := by have := HS.out; rw [hmem] at this; exact this
                clear hmem HS HMM
                go_wp2_with fail
                refine hin.mono ?_
                rintro e w9 ⟨rfl, rfl⟩
                go_wp2_with fail
                go_roundw
                case rel => exact ⟨q + 1, by have := HLQ.out; omega, by go_num, by rw [HS2.out]; exact hown, hrw⟩
                case measure => have := HLQ.out; simp [intOf]; omega
              · rw [hmem] at hin
                have HS2 : Hid (listOf ft (q + 1) = listOf ft q ++ [(q : Int)]) := by have := HS.out; rw [hmem] at this; exact this
                clear hmem HS HMM
                generalize listOf ft q = ll at *
                go_wp2_with fail
                refine hin.mono ?_
                rintro e w9 ⟨rfl, rfl⟩
                go_wp2_with (at_builtin; refine app_intz (W := wr) w3.heap.size wr.heap.size rfl rfl _ _ rfl (.slice A7 n7 c7) ll (q : Int) rfl rfl hown.out HSZ.out (by have := HLN.out; omega) ?_; intro v1 w8 own8 hB8 hg8)
                have HR8 : Hid (RW w3 w8) := Below.trans hrw.out hB8
                go_roundw
                case rel => exact ⟨q + 1, by have := HLQ.out; omega, by go_num, by rw [HS2.out]; exact own8, HR8⟩
                case measure => have := HLQ.out; simp [intOf]; omega
        · obtain rfl : q = 400 := by omega
          simp only [Int.cast_ofNat_Int]
          obtain ⟨w4, rfl⟩ : ∃ w4 : World, w4 = wr := ⟨_, rfl⟩
          obtain ⟨A7', c7', e', -⟩ := OwnI.read hown.out
          injection e' with e1 e2 e3
          subst e2
          clear e1 e3
          have HSA4 := Lib.hid (HSA3.out.below hrw.out)
          have HST4 := Lib.hid (HST3.out.below hrw.out)
          have HSD4 : Hid (SetAt w4.drew g h M f) := HSA4.out.of_heap rfl
          have HPA4 := Lib.hid (HPA3.out.later hrw.out)
          have HT4 := Lib.hid (hT.below HPA4.out.bel)
          have HOB4 := Lib.hid hob
          have HFO : Hid (∀ j, M ≤ j → f j = false) := HSA4.out.out
          have hM3 : M ≤ 300 := by have := HM.out; omega
          have HLL := Lib.hid (readI_own hown.out)
          clear hlq hq HST3 HSA3 HPA3 HLA3 HOB3
          by_cases k1 : kd = 1
          · as_aux_lemma =>
              subst k1
              cases hb : hasI f K
              · have HFE : Hid (∀ j, j < M → f j = delF f K j) := fun j hj => by
                  unfold delF
                  by_cases q : (j : Int) = K
                  · subst q
                    unfold hasI at hb
                    simp at hb
                    simp [hb]
                  · simp [q]
                have hdr := fun W (hW : SetAt W g h M f) => drop_any K W hW
                have hhas := fun W (hW : PI w M T G f W) => play_has K W hW.cells.1 hW.cells.2 hW.row hM3 HFO.out
                rw [hb] at hdr hhas
                clear hb
                have HNE : Hid (some OB ≠ some h) := fun e => by injection e with e; have := HOS.out.2.2.2.2; omega
                go_wp2_with fail
                go_region_held3 (fun w' => w'.cell? ⟨OB, 1, none⟩ = some (.int .i64 K) ∧ PI w M T G f w')
                  (first | assumption | exact ⟨o1, HPA4.out.later (RW.refl w4).drew⟩ | exact ⟨g9.cell (And.left (by assumption)) HNE.out, PI.grown (And.right (by assumption)) g9 hpd.out.2⟩ | fail)
                  (first
                    | (go_at_call 17; refine (hdr _ HSD4.out).mono ?_; rintro e w9 ⟨rfl, hs9, g9, hz9⟩)
                    | (go_at_call 19; refine (hhas _ (And.right (by assumption))).mono ?_; rintro e w10 ⟨rfl, rfl⟩)
                    | fail)
                have hh9 : w9.cell? ⟨OB, 1, none⟩ = some (.int .i64 K) ∧ PI w M T G f w9 := by assumption
                have o19 := hh9.1
                have HP9 := Lib.hid hh9.2
                have HS9 := Lib.hid hs9
                clear hh9 hs9 g9 hz9 hdr
                go_wp2_with fail
                refine (hhas _ HP9.out).mono ?_
                rintro e w10 ⟨rfl, rfl⟩
                go_wp2_with fail
                go_roundw
                case rel => exact ⟨k + 1, g, h, delF f K, by have := HLT.out.1; omega, by have := HLT.out.2; omega, rfl, by go_num, HS9, HP9.out.congr HFE.out, hpd⟩
                case measure => have := HLT.out.2; simp [intOf]; omega
              · obtain ⟨hk0, hk1⟩ := hasI_lt HSA4.out hb
                obtain ⟨y, rfl⟩ : ∃ y : Nat, K = y := ⟨K.toNat, by omega⟩
                have hyM : y < M := by omega
                have HFE : Hid (∀ j, j < M → (if j = y then false else f j) = delF f (y : Int) j) := fun j hj => by
                  unfold delF
                  by_cases q : j = y
                  · subst q
                    simp
                  · rw [if_neg q]
                    have : ¬ (j : Int) = (y : Int) := by omega
                    simp [this]
                have hdr := fun W (hW : SetAt W g h M f) => drop_any (y : Int) W hW
                have hhas := fun W (hW : PI w M T G f W) => play_has (y : Int) W hW.cells.1 hW.cells.2 hW.row hM3 HFO.out
                rw [hb] at hdr hhas
                have hyi : (0 : Int) ≤ (y : Int) ∧ (y : Int) < (M : Int) := by omega
                clear hb hk0 hk1
                have HNE : Hid (some OB ≠ some h) := fun e => by injection e with e; have := HOS.out.2.2.2.2; omega
                go_wp2_with fail
                go_region_held3 (fun w' => w'.cell? ⟨OB, 1, none⟩ = some (.int .i64 (y : Int)) ∧ PI w M T G f w')
                  (first | assumption | exact ⟨o1, HPA4.out.later (RW.refl w4).drew⟩ | exact ⟨g9.cell (And.left (by assumption)) HNE.out, PI.grown (And.right (by assumption)) g9 hpd.out.2⟩ | fail)
                  (first
                    | (go_at_call 17; refine (hdr _ HSD4.out).mono ?_; rintro e w9 ⟨rfl, hs9, g9, hz9⟩)
                    | (go_at_call 19; refine (hhas _ (And.right (by assumption))).mono ?_; rintro e w10 ⟨rfl, rfl⟩)
                    | fail)
                have hh9 : w9.cell? ⟨OB, 1, none⟩ = some (.int .i64 (y : Int)) ∧ PI w M T G f w9 := by assumption
                have o19 := hh9.1
                have HP9 := Lib.hid hh9.2
                have hin9 := (PI.cells hh9.2).2
                have hcy := RowF.cell hh9.2.row hyM
                have hfy := RowF.froz hh9.2.row y
                have HPS := Lib.hid ((hh9.2.set y false).congr HFE.out)
                have HS9 : Hid (SetAt (w9.setCell ⟨G, y, none⟩ (.bool false)) g h M (delF f (y : Int))) := hs9.other (grown_set _ _ _ _) (fun e => hpd.out.1.2.2 e) (fun e => hpd.out.2.2.2 e)
                clear hh9 hs9 g9 hz9 hdr
                go_wp2_with fail
                refine (hhas _ HP9.out).mono ?_
                rintro e w10 ⟨rfl, rfl⟩
                go_wp2_with fail
                go_roundw
                case rel => exact ⟨k + 1, g, h, delF f (y : Int), by have := HLT.out.1; omega, by have := HLT.out.2; omega, rfl, by go_num, HS9, HPS, hpd⟩
                case measure => have := HLT.out.2; simp [intOf]; omega
          · have q1 : (kd == 1) = false := by simpa using k1
            have HOB3' := Lib.hid hob
            have HOG : Hid (some OB ≠ some G) := fun e => by injection e with e; have := HOS.out.2.2.1; omega
            have HTG : Hid (gt ≠ G ∧ ht ≠ G) := by have := HGT.out; have := HOS.out.2.2.1; unfold Hid; omega
            have HTH : Hid (gt ≠ h ∧ ht ≠ h) := by have := HGT.out; have := HOS.out.2.2.2.2; unfold Hid; omega
            have HOH : Hid (some OB ≠ some h) := fun e => by injection e with e; have := HOS.out.2.2.2.2; omega
            have HNH : Hid (∀ b o, A7 = some ⟨b, o, none⟩ → some b ≠ some h) := fun b o e q => by
              injection q with q
              have := row_base hown.out b (by rw [e]; rfl)
              have h1 := HOS.out.2.2.2.2
              have h2 := HOW.out.1
              omega
            by_cases k2 : kd = 2
            · as_aux_lemma =>
                subst k2
                have HPI5 := Lib.hid HPA4.out
                have HGR0 : Hid (w4.grownBy w4 (some G)) := World.grownBy.refl _ _
                have HST0 : Hid (Hid (PI w M T G (run_put M f ((listOf ft 400).take 0)).2 w4)) := by
                  rw [List.take_zero]
                  exact HPA4.out
                have HNB : Hid (∀ b o, A7 = some ⟨b, o, none⟩ → some b ≠ some G) := fun b o e q => by
                  injection q with q
                  have := row_base hown.out b (by rw [e]; rfl)
                  have h2 := HOW.out.2
                  omega
                have HLM : Hid (∀ q, q < (listOf ft 400).length → ∃ z : Nat, gi (listOf ft 400) q = z ∧ z < 400) := fun q hq => by
                  have hm := (mem_listOf ft 400 _).1 (gi_mem hq)
                  exact ⟨(gi (listOf ft 400) q).toNat, by omega, by omega⟩
                have HND := Lib.hid (nodup_listOf ft 400)
                have HL4 : Hid ((listOf ft 400).length ≤ 400) := by have := lst_length ft 400 0; exact this
                generalize hll : listOf ft 400 = ll at *
                have HLE := Lib.hid hll
                clear hll
                have hll4 : ll.length ≤ 400 := HL4.out
                go_wp2_with fail
                go_loopw [15, 16] (fun x i wr => ∃ q : Nat, q ≤ ll.length ∧ x = .int .i64 (run_put M f (ll.take q)).1 ∧ i = .int .i64 q ∧ Hid (PI w M T G (run_put M f (ll.take q)).2 wr) ∧ Hid (w4.grownBy wr (some G))) (fun x i _ => ll.length - (intOf i).toNat)
                case atStart => exact ⟨0, Nat.zero_le _, by rw [List.take_zero]; rfl, rfl, HST0.out, HGR0⟩
                case round =>
                  obtain ⟨q, hq, rfl, rfl, hpq, hgr⟩ := hrel
                  by_cases hlq : q < ll.length
                  · obtain ⟨zn, hz, hz4⟩ := HLM.out q hlq
                    obtain ⟨hs1, hs2⟩ := put_step M f hlq hz
                    have hx4 : (run_put M f (ll.take q)).1 ≤ 400 := by have := run_put_le M f (ll.take q); rw [List.length_take] at this; omega
                    obtain ⟨bl, ol, hAe, hcl⟩ := (HLL.out.grown hgr.out HNB.out).2.2 (by omega)
                    have hck := hcl q hlq
                    rw [hz] at hck
                    have ho0 := hgr.out.cell o0 HOG.out
                    obtain ⟨hn0, hi0⟩ := hpq.out.cells
                    have hqi : (0 : Int) ≤ (q : Int) ∧ (q : Int) < (ll.length : Int) := by omega
                    have hqd : decide ((q : Int) < (ll.length : Int)) = true := by rw [decide_eq_true_eq]; omega
                    have hzi : (0 : Int) ≤ (zn : Int) := by omega
                    have HLQ := Lib.hid hlq
                    subst hAe
                    clear hcl hlq hq hz
                    by_cases hzm : zn < M
                    · have hzd : decide ((zn : Int) < (M : Int)) = true := by rw [decide_eq_true_eq]; omega
                      have hzi2 : (zn : Int) < (M : Int) := by omega
                      have hcz := RowF.cell hpq.out.row hzm
                      have hfz := RowF.froz hpq.out.row zn
                      cases hfq : (run_put M f (ll.take q)).2 zn
                      · rw [hfq] at hcz hs1 hs2
                        obtain ⟨e1, e2⟩ := hs1 (by simp [hzm])
                        have HE1 := Lib.hid e1
                        have HE2 := Lib.hid e2
                        clear hs1 hs2 e1 e2 hfq
                        go_wp2_with fail
                        go_quiet (fail)
                        rename_i nq
                        have HPN := Lib.hid (hpq.out.later ((Drawn.refl _).step nq |>.below _))
                        have HGN : Hid (w4.grownBy (wr.drewN nq) (some G)) := ⟨hgr.out.os, hgr.out.tape, hgr.out.output, hgr.out.size, hgr.out.block⟩
                        have hck5 := cell_later ((Drawn.refl wr).step nq |>.below _) hck
                        have ho05 := cell_later ((Drawn.refl wr).step nq |>.below _) ho0
                        clear hcz hfz hn0 hi0 hck ho0
                        generalize wr.drewN nq = w5 at *
                        obtain ⟨hn0, hi0⟩ := HPN.out.cells
                        have hcz := RowF.cell HPN.out.row hzm
                        have hfz := RowF.froz HPN.out.row zn
                        go_wp2_with fail
                        have HC5 : Hid (w5.cell? ⟨T, 0, none⟩ = some (.slice (some ⟨G, 0, none⟩) M M) ∧ w5.cell? ⟨bl, ol + q, none⟩ = some (.int .i64 (zn : Int)) ∧ w5.cell? ⟨OB, 0, none⟩ = some (.int .i64 2)) := ⟨hi0, hck5, ho05⟩
                        have HSTO : Hid ((w5.setCell ⟨G, zn, none⟩ (.bool true)).cell? ⟨T, 0, none⟩ = some (.slice (some ⟨G, 0, none⟩) M M) ∧ (w5.setCell ⟨G, zn, none⟩ (.bool true)).cell? ⟨bl, ol + q, none⟩ = some (.int .i64 (zn : Int)) ∧ (w5.setCell ⟨G, zn, none⟩ (.bool true)).cell? ⟨OB, 0, none⟩ = some (.int .i64 2)) :=
                          ⟨(grown_set _ _ _ _).cell hi0 (by simpa using HPN.out.tG), (grown_set _ _ _ _).cell hck5 (HNB.out bl ol rfl), (grown_set _ _ _ _).cell ho05 HOG.out⟩
                        go_region_held3 (fun w' => w'.cell? ⟨T, 0, none⟩ = some (.slice (some ⟨G, 0, none⟩) M M) ∧ w'.cell? ⟨bl, ol + q, none⟩ = some (.int .i64 (zn : Int)) ∧ w'.cell? ⟨OB, 0, none⟩ = some (.int .i64 2))
                          (first | assumption | exact HC5.out | exact HSTO.out | fail) (fail)
                        have HP9 : Hid (PI w M T G (run_put M f (ll.take (q + 1))).2 (w5.setCell ⟨G, zn, none⟩ (.bool true)).drew) := ((HPN.out.set zn true).congr HE2.out).later (RW.refl _).drew
                        have HG9 : Hid (w4.grownBy (w5.setCell ⟨G, zn, none⟩ (.bool true)).drew (some G)) := grown_drew (HGN.out.trans (grown_set _ _ _ _))
                        go_wp2_with fail
                        go_roundw
                        case rel => exact ⟨q + 1, by have := HLQ.out; omega, by rw [HE1.out]; go_num, by go_num, HP9, HG9⟩
                        case measure => have := HLQ.out; simp [intOf]; omega
                      · rw [hfq] at hcz hs1 hs2
                        obtain ⟨e1, e2⟩ := hs2 (by simp [hzm])
                        have HE1 := Lib.hid e1
                        have HE2 := Lib.hid e2
                        clear hs1 hs2 e1 e2 hfq
                        go_wp2_with fail
                        go_quiet (fail)
                        rename_i nq
                        have HPN := Lib.hid ((hpq.out.later ((Drawn.refl _).step nq |>.below _)).congr HE2.out)
                        have HGN : Hid (w4.grownBy (wr.drewN nq) (some G)) := ⟨hgr.out.os, hgr.out.tape, hgr.out.output, hgr.out.size, hgr.out.block⟩
                        go_wp2_with fail
                        go_roundw
                        case rel => exact ⟨q + 1, by have := HLQ.out; omega, by rw [HE1.out], by go_num, HPN, HGN⟩
                        case measure => have := HLQ.out; simp [intOf]; omega
                    · have hzd : decide ((zn : Int) < (M : Int)) = false := by rw [decide_eq_false_iff_not]; omega
                      obtain ⟨e1, e2⟩ := hs2 (by simp [hzm])
                      have HE1 := Lib.hid e1
                      have HE2 := Lib.hid e2
                      clear hs1 hs2 e1 e2
                      go_wp2_with fail
                      go_quiet (fail)
                      rename_i nq
                      have HPN := Lib.hid ((hpq.out.later ((Drawn.refl _).step nq |>.below _)).congr HE2.out)
                      have HGN : Hid (w4.grownBy (wr.drewN nq) (some G)) := ⟨hgr.out.os, hgr.out.tape, hgr.out.output, hgr.out.size, hgr.out.block⟩
                      go_wp2_with fail
                      go_roundw
                      case rel => exact ⟨q + 1, by have := HLQ.out; omega, by rw [HE1.out], by go_num, HPN, HGN⟩
                      case measure => have := HLQ.out; simp [intOf]; omega
                  · obtain rfl : q = ll.length := by omega
                    rw [List.take_of_length_le (Nat.le_refl _)] at hpq
                    have htk : ll.take ll.length = ll := List.take_of_length_le (Nat.le_refl _)
                    have hqd : decide ((ll.length : Int) < (ll.length : Int)) = false := by simp
                    have hos := hgr.out.cell o0 HOG.out
                    have hjo := Join_any wr (HSA4.out.other hgr.out hpd.out.1.2.2 hpd.out.2.2.2) (HST4.out.other hgr.out HTG.out.1 HTG.out.2) (hT.below hpq.out.bel)
                    rw [HLE.out] at hjo
                    rw [htk]
                    clear htk hlq hq
                    have HRX : Hid ((run_put M f ll).1 ≤ 400) := by have := run_put_le M f ll; unfold Hid; omega
                    go_wp2_with fail
                    refine hjo.mono ?_
                    rintro e w6 ⟨rfl, hs6, hg6⟩
                    have HS6 := Lib.hid hs6
                    have HP6 := Lib.hid (hpq.out.grown hg6 hpd.out.2)
                    have HT6 := Lib.hid ((HST4.out.other hgr.out HTG.out.1 HTG.out.2).other hg6 HTH.out.1 HTH.out.2)
                    have HL6 := Lib.hid ((HLL.out.grown hgr.out HNB.out).grown hg6 HNH.out)
                    have ho6 := hg6.cell hos HOH.out
                    have hli := list_any w6 HT6.out (hT.below HP6.out.bel)
                    rw [HLE.out] at hli
                    clear hs6 hg6 hjo hos
                    go_wp2_with fail
                    refine hli.mono ?_
                    rintro e w7 ⟨v7, rfl, own7, hb7⟩
                    obtain ⟨A8, c8, rfl, -, -, hR8⟩ := OwnI.read own7
                    have hpl := plain_any (ca := c8) (cb := c7) w7 hR8 (HL6.out.below hb7)
                    rw [decide_eq_true rfl] at hpl
                    have HS7 := Lib.hid (HS6.out.below hb7)
                    have HP7 := Lib.hid (HP6.out.later hb7)
                    clear own7 hb7 hli hR8 ho6
                    go_wp2_with fail
                    refine hpl.mono ?_
                    rintro e w8 ⟨rfl, hd8⟩
                    have HS8 := Lib.hid (HS7.out.below (hd8.below _))
                    have HP8 := Lib.hid (HP7.out.later (hd8.below _))
                    clear hd8 hpl
                    go_wp2_with fail
                    go_roundw
                    case rel => exact ⟨k + 1, g, h, (run_put M f ll).2, by have := HLT.out.1; omega, by have := HLT.out.2; omega, rfl, by go_num, HS8, HP8, hpd⟩
                    case measure => have := HLT.out.2; simp [intOf]; omega
            have q2 : (kd == 2) = false := by simpa using k2
            by_cases k3 : kd = 3
            · as_aux_lemma =>
                subst k3
                have HPI5 := Lib.hid HPA4.out
                have HGR0 : Hid (w4.grownBy w4 (some G)) := World.grownBy.refl _ _
                have HST0 : Hid (Hid (PI w M T G (run_drop M f ((listOf ft 400).take 0)).2 w4)) := by
                  rw [List.take_zero]
                  exact HPA4.out
                have HNB : Hid (∀ b o, A7 = some ⟨b, o, none⟩ → some b ≠ some G) := fun b o e q => by
                  injection q with q
                  have := row_base hown.out b (by rw [e]; rfl)
                  have h2 := HOW.out.2
                  omega
                have HLM : Hid (∀ q, q < (listOf ft 400).length → ∃ z : Nat, gi (listOf ft 400) q = z ∧ z < 400) := fun q hq => by
                  have hm := (mem_listOf ft 400 _).1 (gi_mem hq)
                  exact ⟨(gi (listOf ft 400) q).toNat, by omega, by omega⟩
                have HND := Lib.hid (nodup_listOf ft 400)
                have HL4 : Hid ((listOf ft 400).length ≤ 400) := by have := lst_length ft 400 0; exact this
                generalize hll : listOf ft 400 = ll at *
                have HLE := Lib.hid hll
                clear hll
                have hll4 : ll.length ≤ 400 := HL4.out
                go_wp2_with fail
                go_loopw [15, 16] (fun x i wr => ∃ q : Nat, q ≤ ll.length ∧ x = .int .i64 (run_drop M f (ll.take q)).1 ∧ i = .int .i64 q ∧ Hid (PI w M T G (run_drop M f (ll.take q)).2 wr) ∧ Hid (w4.grownBy wr (some G))) (fun x i _ => ll.length - (intOf i).toNat)
                case atStart => exact ⟨0, Nat.zero_le _, by rw [List.take_zero]; rfl, rfl, HST0.out, HGR0⟩
                case round =>
                  obtain ⟨q, hq, rfl, rfl, hpq, hgr⟩ := hrel
                  by_cases hlq : q < ll.length
                  · obtain ⟨zn, hz, hz4⟩ := HLM.out q hlq
                    obtain ⟨hs1, hs2⟩ := drop_step M f HFO.out HND.out hlq hz
                    have hx4 : (run_drop M f (ll.take q)).1 ≤ 400 := by have := run_drop_le M f (ll.take q); rw [List.length_take] at this; omega
                    obtain ⟨bl, ol, hAe, hcl⟩ := (HLL.out.grown hgr.out HNB.out).2.2 (by omega)
                    have hck := hcl q hlq
                    rw [hz] at hck
                    have ho0 := hgr.out.cell o0 HOG.out
                    obtain ⟨hn0, hi0⟩ := hpq.out.cells
                    have hqi : (0 : Int) ≤ (q : Int) ∧ (q : Int) < (ll.length : Int) := by omega
                    have hqd : decide ((q : Int) < (ll.length : Int)) = true := by rw [decide_eq_true_eq]; omega
                    have hzi : (0 : Int) ≤ (zn : Int) := by omega
                    have HLQ := Lib.hid hlq
                    subst hAe
                    clear hcl hlq hq hz
                    by_cases hzm : zn < M
                    · have hzd : decide ((zn : Int) < (M : Int)) = true := by rw [decide_eq_true_eq]; omega
                      have hzi2 : (zn : Int) < (M : Int) := by omega
                      have hcz := RowF.cell hpq.out.row hzm
                      have hfz := RowF.froz hpq.out.row zn
                      cases hfq : (run_drop M f (ll.take q)).2 zn
                      · rw [hfq] at hcz hs1 hs2
                        obtain ⟨e1, e2⟩ := hs2 (by simp [hzm])
                        have HE1 := Lib.hid e1
                        have HE2 := Lib.hid e2
                        clear hs1 hs2 e1 e2 hfq
                        go_wp2_with fail
                        go_quiet (fail)
                        rename_i nq
                        have HPN := Lib.hid ((hpq.out.later ((Drawn.refl _).step nq |>.below _)).congr HE2.out)
                        have HGN : Hid (w4.grownBy (wr.drewN nq) (some G)) := ⟨hgr.out.os, hgr.out.tape, hgr.out.output, hgr.out.size, hgr.out.block⟩
                        go_wp2_with fail
                        go_roundw
                        case rel => exact ⟨q + 1, by have := HLQ.out; omega, by rw [HE1.out], by go_num, HPN, HGN⟩
                        case measure => have := HLQ.out; simp [intOf]; omega
                      · rw [hfq] at hcz hs1 hs2
                        obtain ⟨e1, e2⟩ := hs1 (by simp [hzm])
                        have HE1 := Lib.hid e1
                        have HE2 := Lib.hid e2
                        clear hs1 hs2 e1 e2 hfq
                        go_wp2_with fail
                        go_quiet (fail)
                        rename_i nq
                        have HPN := Lib.hid (hpq.out.later ((Drawn.refl _).step nq |>.below _))
                        have HGN : Hid (w4.grownBy (wr.drewN nq) (some G)) := ⟨hgr.out.os, hgr.out.tape, hgr.out.output, hgr.out.size, hgr.out.block⟩
                        have hck5 := cell_later ((Drawn.refl wr).step nq |>.below _) hck
                        have ho05 := cell_later ((Drawn.refl wr).step nq |>.below _) ho0
                        clear hcz hfz hn0 hi0 hck ho0
                        generalize wr.drewN nq = w5 at *
                        obtain ⟨hn0, hi0⟩ := HPN.out.cells
                        have hcz := RowF.cell HPN.out.row hzm
                        have hfz := RowF.froz HPN.out.row zn
                        go_wp2_with fail
                        have HC5 : Hid (w5.cell? ⟨T, 0, none⟩ = some (.slice (some ⟨G, 0, none⟩) M M) ∧ w5.cell? ⟨bl, ol + q, none⟩ = some (.int .i64 (zn : Int)) ∧ w5.cell? ⟨OB, 0, none⟩ = some (.int .i64 3)) := ⟨hi0, hck5, ho05⟩
                        have HSTO : Hid ((w5.setCell ⟨G, zn, none⟩ (.bool false)).cell? ⟨T, 0, none⟩ = some (.slice (some ⟨G, 0, none⟩) M M) ∧ (w5.setCell ⟨G, zn, none⟩ (.bool false)).cell? ⟨bl, ol + q, none⟩ = some (.int .i64 (zn : Int)) ∧ (w5.setCell ⟨G, zn, none⟩ (.bool false)).cell? ⟨OB, 0, none⟩ = some (.int .i64 3)) :=
                          ⟨(grown_set _ _ _ _).cell hi0 (by simpa using HPN.out.tG), (grown_set _ _ _ _).cell hck5 (HNB.out bl ol rfl), (grown_set _ _ _ _).cell ho05 HOG.out⟩
                        go_region_held3 (fun w' => w'.cell? ⟨T, 0, none⟩ = some (.slice (some ⟨G, 0, none⟩) M M) ∧ w'.cell? ⟨bl, ol + q, none⟩ = some (.int .i64 (zn : Int)) ∧ w'.cell? ⟨OB, 0, none⟩ = some (.int .i64 3))
                          (first | assumption | exact HC5.out | exact HSTO.out | fail) (fail)
                        have HP9 : Hid (PI w M T G (run_drop M f (ll.take (q + 1))).2 (w5.setCell ⟨G, zn, none⟩ (.bool false)).drew) := ((HPN.out.set zn false).congr HE2.out).later (RW.refl _).drew
                        have HG9 : Hid (w4.grownBy (w5.setCell ⟨G, zn, none⟩ (.bool false)).drew (some G)) := grown_drew (HGN.out.trans (grown_set _ _ _ _))
                        go_wp2_with fail
                        go_roundw
                        case rel => exact ⟨q + 1, by have := HLQ.out; omega, by rw [HE1.out]; go_num, by go_num, HP9, HG9⟩
                        case measure => have := HLQ.out; simp [intOf]; omega
                    · have hzd : decide ((zn : Int) < (M : Int)) = false := by rw [decide_eq_false_iff_not]; omega
                      obtain ⟨e1, e2⟩ := hs2 (by simp [hzm])
                      have HE1 := Lib.hid e1
                      have HE2 := Lib.hid e2
                      clear hs1 hs2 e1 e2
                      go_wp2_with fail
                      go_quiet (fail)
                      rename_i nq
                      have HPN := Lib.hid ((hpq.out.later ((Drawn.refl _).step nq |>.below _)).congr HE2.out)
                      have HGN : Hid (w4.grownBy (wr.drewN nq) (some G)) := ⟨hgr.out.os, hgr.out.tape, hgr.out.output, hgr.out.size, hgr.out.block⟩
                      go_wp2_with fail
                      go_roundw
                      case rel => exact ⟨q + 1, by have := HLQ.out; omega, by rw [HE1.out], by go_num, HPN, HGN⟩
                      case measure => have := HLQ.out; simp [intOf]; omega
                  · obtain rfl : q = ll.length := by omega
                    rw [List.take_of_length_le (Nat.le_refl _)] at hpq
                    have htk : ll.take ll.length = ll := List.take_of_length_le (Nat.le_refl _)
                    have hqd : decide ((ll.length : Int) < (ll.length : Int)) = false := by simp
                    have hos := hgr.out.cell o0 HOG.out
                    have hjo := Less_any wr (HSA4.out.other hgr.out hpd.out.1.2.2 hpd.out.2.2.2) (HST4.out.other hgr.out HTG.out.1 HTG.out.2) (hT.below hpq.out.bel)
                    rw [HLE.out] at hjo
                    rw [htk]
                    clear htk hlq hq
                    have HRX : Hid ((run_drop M f ll).1 ≤ 400) := by have := run_drop_le M f ll; unfold Hid; omega
                    go_wp2_with fail
                    refine hjo.mono ?_
                    rintro e w6 ⟨rfl, hs6, hg6⟩
                    have HS6 := Lib.hid hs6
                    have HP6 := Lib.hid (hpq.out.grown hg6 hpd.out.2)
                    have HT6 := Lib.hid ((HST4.out.other hgr.out HTG.out.1 HTG.out.2).other hg6 HTH.out.1 HTH.out.2)
                    have HL6 := Lib.hid ((HLL.out.grown hgr.out HNB.out).grown hg6 HNH.out)
                    have ho6 := hg6.cell hos HOH.out
                    have hli := list_any w6 HT6.out (hT.below HP6.out.bel)
                    rw [HLE.out] at hli
                    clear hs6 hg6 hjo hos
                    go_wp2_with fail
                    refine hli.mono ?_
                    rintro e w7 ⟨v7, rfl, own7, hb7⟩
                    obtain ⟨A8, c8, rfl, -, -, hR8⟩ := OwnI.read own7
                    have hpl := plain_any (ca := c8) (cb := c7) w7 hR8 (HL6.out.below hb7)
                    rw [decide_eq_true rfl] at hpl
                    have HS7 := Lib.hid (HS6.out.below hb7)
                    have HP7 := Lib.hid (HP6.out.later hb7)
                    clear own7 hb7 hli hR8 ho6
                    go_wp2_with fail
                    refine hpl.mono ?_
                    rintro e w8 ⟨rfl, hd8⟩
                    have HS8 := Lib.hid (HS7.out.below (hd8.below _))
                    have HP8 := Lib.hid (HP7.out.later (hd8.below _))
                    clear hd8 hpl
                    go_wp2_with fail
                    go_roundw
                    case rel => exact ⟨k + 1, g, h, (run_drop M f ll).2, by have := HLT.out.1; omega, by have := HLT.out.2; omega, rfl, by go_num, HS8, HP8, hpd⟩
                    case measure => have := HLT.out.2; simp [intOf]; omega
            have q3 : (kd == 3) = false := by simpa using k3
            have HPD4 : Hid (PI w M T G f w4.drew) := HPA4.out.later (RW.refl w4).drew
            by_cases k4 : kd = 4
            · as_aux_lemma =>
                subst k4
                have hfo := fork_any w4 HSA4.out
                clear o2
                go_wp2_with fail
                refine hfo.mono ?_
                rintro e w5 ⟨g', h', rfl, hs5, hb5, hg5, hh5⟩
                have HN5 : Hid (g' ≠ h ∧ h' ≠ h ∧ T < g' ∧ T < h' ∧ G < g' ∧ G < h' ∧ w.heap.size < g' ∧ w.heap.size < h') := by
                  have h1 := HSA4.out.wlt
                  have h2 := HPA4.out.szT
                  unfold Hid
                  omega
                have HS5 := Lib.hid hs5
                have HP5 := Lib.hid (HPA4.out.later hb5)
                have hpu := put_any 0 w5 (HSA4.out.below hb5)
                clear hfo hs5 hb5 hg5 hh5
                go_wp2_with fail
                refine hpu.mono ?_
                rintro e w6 ⟨rfl, hs6, hg6, hz6⟩
                have HS6 := Lib.hid (HS5.out.other hg6 HN5.out.1 HN5.out.2.1)
                have HP6 := Lib.hid (HP5.out.grown hg6 hpd.out.2)
                have hdp := drop_any 1 w6 hs6
                clear hpu hs6 hg6 hz6
                go_wp2_with fail
                refine hdp.mono ?_
                rintro e w7 ⟨rfl, hs7, hg7, hz7⟩
                have HS7 := Lib.hid (HS6.out.other hg7 HN5.out.1 HN5.out.2.1)
                have HP7 := Lib.hid (HP6.out.grown hg7 hpd.out.2)
                have HPD7 : Hid (PD w T G g' ∧ PD w T G h') := by
                  have := HN5.out
                  exact ⟨⟨by omega, by omega, by omega⟩, ⟨by omega, by omega, by omega⟩⟩
                clear hdp hs7 hg7 hz7
                go_wp2_with fail
                go_roundw
                case rel => exact ⟨k + 1, g', h', f, by have := HLT.out.1; omega, by have := HLT.out.2; omega, rfl, by go_num, HS7, HP7, HPD7⟩
                case measure => have := HLT.out.2; simp [intOf]; omega
            have q4 : (kd == 4) = false := by simpa using k4
            have hpu := fun W (hW : SetAt W g h M f) => put_any K W hW
            by_cases k0 : 0 ≤ K
            · have d0 : decide (0 ≤ K) = true := decide_eq_true k0
              by_cases kM : K < M
              · as_aux_lemma =>
                  have d1 : decide (K < (M : Int)) = true := decide_eq_true kM
                  obtain ⟨y, rfl⟩ : ∃ y : Nat, K = y := ⟨K.toNat, by omega⟩
                  have hyM : y < M := by omega
                  have hyi : (0 : Int) ≤ (y : Int) ∧ (y : Int) < (M : Int) := by omega
                  have HFE : Hid (∀ j, j < M → (if j = y then true else f j) = putF M f (y : Int) j) := fun j hj => by
                    unfold putF
                    by_cases q : j = y
                    · subst q
                      simp [hj]
                    · rw [if_neg q]
                      have : ¬ (j : Int) = (y : Int) := by omega
                      simp [this]
                  have hpb : putB M f (y : Int) = !f y := by
                    unfold putB
                    simp only [Int.toNat_natCast]
                    rw [decide_eq_true (by omega)]
                    rfl
                  rw [hpb] at hpu
                  have hcy4 := RowF.cell HPA4.out.row hyM
                  obtain ⟨hn4, hi4⟩ := HPA4.out.cells
                  clear hpb k0 kM
                  generalize f y = fy at hpu hcy4
                  have HS5 : Hid (w4.cell? ⟨OB, 1, none⟩ = some (.int .i64 (y : Int)) ∧ w4.cell? ⟨w.heap.size, 0, none⟩ = some (.int .i64 M) ∧ w4.cell? ⟨T, 0, none⟩ = some (.slice (some ⟨G, 0, none⟩) M M) ∧ w4.cell? ⟨G, y, none⟩ = some (.bool fy)) := ⟨o1, hn4, hi4, hcy4⟩
                  have HNW : Hid (some w.heap.size ≠ some h ∧ some T ≠ some h ∧ some G ≠ some h) := by
                    have := hpd.out.2
                    exact ⟨fun e => by injection e with e; have := this.1; omega, fun e => by injection e with e; exact this.2.1 e.symm, fun e => by injection e with e; exact this.2.2 e.symm⟩
                  clear hn4 hi4 hcy4 o2
                  cases fy
                  · skip
                    go_wp2_with fail
                    go_region_held3 (fun w' => w'.cell? ⟨OB, 1, none⟩ = some (.int .i64 (y : Int)) ∧ w'.cell? ⟨w.heap.size, 0, none⟩ = some (.int .i64 M) ∧ w'.cell? ⟨T, 0, none⟩ = some (.slice (some ⟨G, 0, none⟩) M M) ∧ w'.cell? ⟨G, y, none⟩ = some (.bool false))
                      (first | assumption | exact HS5.out | exact ⟨g9.cell HS5.out.1 HOH.out, g9.cell HS5.out.2.1 HNW.out.1, g9.cell HS5.out.2.2.1 HNW.out.2.1, g9.cell HS5.out.2.2.2 HNW.out.2.2⟩ | fail)
                      (first
                        | (go_at_call 10; refine (hpu _ HSD4.out).mono ?_; rintro e w9 ⟨rfl, hs9, g9, hz9⟩)
                        | fail)
                    have hp9 := HPD4.out.grown g9 hpd.out.2
                    have o19 := g9.cell o1 HOH.out
                    obtain ⟨hn9, hi9⟩ := hp9.cells
                    have hcy := RowF.cell hp9.row hyM
                    have hfy := RowF.froz hp9.row y
                    have HPS := Lib.hid ((hp9.set y true).congr HFE.out)
                    have HS9 : Hid (SetAt (w9.setCell ⟨G, y, none⟩ (.bool true)) g h M (putF M f (y : Int))) := hs9.other (grown_set _ _ _ _) (fun e => hpd.out.1.2.2 e) (fun e => hpd.out.2.2.2 e)
                    clear hp9 hs9 g9 hz9 hpu
                    go_wp2_with fail
                    go_roundw
                    case rel => exact ⟨k + 1, g, h, putF M f (y : Int), by have := HLT.out.1; omega, by have := HLT.out.2; omega, rfl, by go_num, HS9, HPS, hpd⟩
                    case measure => have := HLT.out.2; simp [intOf]; omega
                  · skip
                    go_wp2_with fail
                    go_region_held3 (fun w' => w'.cell? ⟨OB, 1, none⟩ = some (.int .i64 (y : Int)) ∧ w'.cell? ⟨w.heap.size, 0, none⟩ = some (.int .i64 M) ∧ w'.cell? ⟨T, 0, none⟩ = some (.slice (some ⟨G, 0, none⟩) M M) ∧ w'.cell? ⟨G, y, none⟩ = some (.bool true))
                      (first | assumption | exact HS5.out | exact ⟨g9.cell HS5.out.1 HOH.out, g9.cell HS5.out.2.1 HNW.out.1, g9.cell HS5.out.2.2.1 HNW.out.2.1, g9.cell HS5.out.2.2.2 HNW.out.2.2⟩ | fail)
                      (first
                        | (go_at_call 10; refine (hpu _ HSD4.out).mono ?_; rintro e w9 ⟨rfl, hs9, g9, hz9⟩)
                        | fail)
                    have hp9 := HPD4.out.grown g9 hpd.out.2
                    have o19 := g9.cell o1 HOH.out
                    obtain ⟨hn9, hi9⟩ := hp9.cells
                    have hcy := RowF.cell hp9.row hyM
                    have hfy := RowF.froz hp9.row y
                    have HPS := Lib.hid ((hp9.set y true).congr HFE.out)
                    have HS9 : Hid (SetAt (w9.setCell ⟨G, y, none⟩ (.bool true)) g h M (putF M f (y : Int))) := hs9.other (grown_set _ _ _ _) (fun e => hpd.out.1.2.2 e) (fun e => hpd.out.2.2.2 e)
                    clear hp9 hs9 g9 hz9 hpu
                    go_wp2_with fail
                    go_roundw
                    case rel => exact ⟨k + 1, g, h, putF M f (y : Int), by have := HLT.out.1; omega, by have := HLT.out.2; omega, rfl, by go_num, HS9, HPS, hpd⟩
                    case measure => have := HLT.out.2; simp [intOf]; omega
              · as_aux_lemma =>
                  have d1 : decide (K < (M : Int)) = false := decide_eq_false kM
                  have HFE : Hid (∀ j, j < M → f j = putF M f K j) := fun j hj => by
                    unfold putF
                    have : ¬ (j : Int) = K := by omega
                    simp [this]
                  have hpb : putB M f K = false := by
                    unfold putB
                    rw [decide_eq_false (by omega)]
                    rfl
                  rw [hpb] at hpu
                  obtain ⟨hn4, -⟩ := HPA4.out.cells
                  have HS5 : Hid (w4.cell? ⟨OB, 1, none⟩ = some (.int .i64 K) ∧ w4.cell? ⟨w.heap.size, 0, none⟩ = some (.int .i64 M)) := ⟨o1, hn4⟩
                  have HNW : Hid (some w.heap.size ≠ some h) := fun e => by injection e with e; have := hpd.out.2.1; omega
                  clear hpb k0 kM hn4 o2
                  go_wp2_with fail
                  refine wp_region_held_drew (S := fun w' => w'.cell? ⟨OB, 1, none⟩ = some (.int .i64 K) ∧ w'.cell? ⟨w.heap.size, 0, none⟩ = some (.int .i64 M)) (by kernel_rfl) HS5.out (fun hHeld => ?_)
                  refine wpAnyH_take (i := 0) (oi := ?oic0) (v := ?vc0) ?hic0 (by kernel_rfl) (by kernel_rfl) (by kernel_rfl) ?hQc0 ?hyc0 (by assumption) ?restc0
                  case hic0 => first | (simp only [List.getElem?_toArray, List.getElem?_cons_zero, List.getElem?_cons_succ]; rfl) | rfl
                  case hQc0 => exact fun _ _ _ h => h
                  case hyc0 => (refine Or.inl ⟨by rfl, ?_⟩; intro w hSw; (try dsimp only at hSw); go_simp; (try with_reducible rfl))
                  simp only [Act.put, List.setIfInBounds_toArray, List.set_cons_zero, List.set_cons_succ]
                  refine wpAnyH_take (i := 1) (oi := ?oic1) (v := ?vc1) ?hic1 (by kernel_rfl) (by kernel_rfl) (by kernel_rfl) ?hQc1 ?hyc1 (by assumption) ?restc1
                  case hic1 => first | (simp only [List.getElem?_toArray, List.getElem?_cons_zero, List.getElem?_cons_succ]; rfl) | rfl
                  case hQc1 => exact fun _ _ _ h => h
                  case hyc1 => (refine Or.inl ⟨by rfl, ?_⟩; intro w hSw; (try dsimp only at hSw); go_simp; (try with_reducible rfl))
                  simp only [Act.put, List.setIfInBounds_toArray, List.set_cons_zero, List.set_cons_succ]
                  refine wpAnyH_take (i := 2) (oi := ?oic2) (v := ?vc2) ?hic2 (by kernel_rfl) (by kernel_rfl) (by kernel_rfl) ?hQc2 ?hyc2 (by assumption) ?restc2
                  case hic2 => first | (simp only [List.getElem?_toArray, List.getElem?_cons_zero, List.getElem?_cons_succ]; rfl) | rfl
                  case hQc2 => exact fun _ _ _ h => h
                  case hyc2 => (refine Or.inl ⟨by rfl, ?_⟩; intro w hSw; (try dsimp only at hSw); go_simp; (try with_reducible rfl))
                  simp only [Act.put, List.setIfInBounds_toArray, List.set_cons_zero, List.set_cons_succ]
                  refine wpAnyH_take (i := 4) (oi := ?oic4) (v := ?vc4) ?hic4 (by kernel_rfl) (by kernel_rfl) (by kernel_rfl) ?hQc4 ?hyc4 (by assumption) ?restc4
                  case hic4 => first | (simp only [List.getElem?_toArray, List.getElem?_cons_zero, List.getElem?_cons_succ]; rfl) | rfl
                  case hQc4 => exact fun _ _ _ h => h
                  case hyc4 => (refine Or.inl ⟨by rfl, ?_⟩; intro w hSw; (try dsimp only at hSw); go_simp; (try with_reducible rfl))
                  simp only [Act.put, List.setIfInBounds_toArray, List.set_cons_zero, List.set_cons_succ]
                  refine wpAnyH_take (i := 5) (oi := ?oic5) (v := ?vc5) ?hic5 (by kernel_rfl) (by kernel_rfl) (by kernel_rfl) ?hQc5 ?hyc5 (by assumption) ?restc5
                  case hic5 => first | (simp only [List.getElem?_toArray, List.getElem?_cons_zero, List.getElem?_cons_succ]; rfl) | rfl
                  case hQc5 => exact fun _ _ _ h => h
                  case hyc5 => (refine Or.inl ⟨by rfl, ?_⟩; intro w hSw; (try dsimp only at hSw); go_simp; (try with_reducible rfl))
                  simp only [Act.put, List.setIfInBounds_toArray, List.set_cons_zero, List.set_cons_succ]
                  refine wpAnyH_take (i := 6) (oi := ?oic6) (v := ?vc6) ?hic6 (by kernel_rfl) (by kernel_rfl) (by kernel_rfl) ?hQc6 ?hyc6 (by assumption) ?restc6
                  case hic6 => first | (simp only [List.getElem?_toArray, List.getElem?_cons_zero, List.getElem?_cons_succ]; rfl) | rfl
                  case hQc6 => exact fun _ _ _ h => h
                  case hyc6 => (refine Or.inl ⟨by rfl, ?_⟩; intro w hSw; (try dsimp only at hSw); go_simp; (try with_reducible rfl))
                  simp only [Act.put, List.setIfInBounds_toArray, List.set_cons_zero, List.set_cons_succ]
                  refine wpAnyH_ready (rs := [3]) (by kernel_rfl) (by simp) ?_
                  refine AllReadyH.cons rfl (fun K hK => ?_) AllReadyH.nil
                  go_simp
                  go_at_call 10
                  refine (hpu _ HSD4.out).mono ?_
                  rintro e w9 ⟨rfl, hs9, g9, hz9⟩
                  (try go_wp2_with fail)
                  refine hK.out _ _ ⟨g9.cell HS5.out.1 HOH.out, g9.cell HS5.out.2 HNW.out⟩ (fun hHeld => ?_)
                  clear hK K
                  (try simp only [Act.put, List.setIfInBounds_toArray, List.set_cons_zero, List.set_cons_succ])
                  refine wpAnyH_take (i := 7) (oi := ?oic7) (v := ?vc7) ?hic7 (by kernel_rfl) (by kernel_rfl) (by kernel_rfl) ?hQc7 ?hyc7 (by assumption) ?restc7
                  case hic7 => first | (simp only [List.getElem?_toArray, List.getElem?_cons_zero, List.getElem?_cons_succ]; rfl) | rfl
                  case hQc7 => exact fun _ _ _ h => h
                  case hyc7 => (refine Or.inl ⟨by rfl, ?_⟩; intro w hSw; (try dsimp only at hSw); go_simp; (try with_reducible rfl))
                  simp only [Act.put, List.setIfInBounds_toArray, List.set_cons_zero, List.set_cons_succ]
                  refine wpAnyH_take (i := 8) (oi := ?oic8) (v := ?vc8) ?hic8 (by kernel_rfl) (by kernel_rfl) (by kernel_rfl) ?hQc8 ?hyc8 (by assumption) ?restc8
                  case hic8 => first | (simp only [List.getElem?_toArray, List.getElem?_cons_zero, List.getElem?_cons_succ]; rfl) | rfl
                  case hQc8 => exact fun _ _ _ h => h
                  case hyc8 => (refine Or.inl ⟨by rfl, ?_⟩; intro w hSw; (try dsimp only at hSw); go_simp; (try with_reducible rfl))
                  simp only [Act.put, List.setIfInBounds_toArray, List.set_cons_zero, List.set_cons_succ]
                  refine wpAnyH_take (i := 9) (oi := ?oic9) (v := ?vc9) ?hic9 (by kernel_rfl) (by kernel_rfl) (by kernel_rfl) ?hQc9 ?hyc9 (by assumption) ?restc9
                  case hic9 => first | (simp only [List.getElem?_toArray, List.getElem?_cons_zero, List.getElem?_cons_succ]; rfl) | rfl
                  case hQc9 => exact fun _ _ _ h => h
                  case hyc9 => (refine Or.inl ⟨by rfl, ?_⟩; intro w hSw; (try dsimp only at hSw); go_simp; (try with_reducible rfl))
                  simp only [Act.put, List.setIfInBounds_toArray, List.set_cons_zero, List.set_cons_succ]
                  refine wpAnyH_take (i := 10) (oi := ?oic10) (v := ?vc10) ?hic10 (by kernel_rfl) (by kernel_rfl) (by kernel_rfl) ?hQc10 ?hyc10 (by assumption) ?restc10
                  case hic10 => first | (simp only [List.getElem?_toArray, List.getElem?_cons_zero, List.getElem?_cons_succ]; rfl) | rfl
                  case hQc10 => exact fun _ _ _ h => h
                  case hyc10 => (refine Or.inl ⟨by rfl, ?_⟩; intro w hSw; (try dsimp only at hSw); go_simp; (try with_reducible rfl))
                  simp only [Act.put, List.setIfInBounds_toArray, List.set_cons_zero, List.set_cons_succ]
                  refine wpAnyH_take (i := 11) (oi := ?oic11) (v := ?vc11) ?hic11 (by kernel_rfl) (by kernel_rfl) (by kernel_rfl) ?hQc11 ?hyc11 (by assumption) ?restc11
                  case hic11 => first | (simp only [List.getElem?_toArray, List.getElem?_cons_zero, List.getElem?_cons_succ]; rfl) | rfl
                  case hQc11 => exact fun _ _ _ h => h
                  case hyc11 => (refine Or.inl ⟨by rfl, ?_⟩; intro w hSw; (try dsimp only at hSw); go_simp; (try with_reducible rfl))
                  simp only [Act.put, List.setIfInBounds_toArray, List.set_cons_zero, List.set_cons_succ]
                  refine wpAnyH_take (i := 12) (oi := ?oic12) (v := ?vc12) ?hic12 (by kernel_rfl) (by kernel_rfl) (by kernel_rfl) ?hQc12 ?hyc12 (by assumption) ?restc12
                  case hic12 => first | (simp only [List.getElem?_toArray, List.getElem?_cons_zero, List.getElem?_cons_succ]; rfl) | rfl
                  case hQc12 => exact fun _ _ _ h => h
                  case hyc12 => (refine Or.inl ⟨by rfl, ?_⟩; intro w hSw; (try dsimp only at hSw); go_simp; (try with_reducible rfl))
                  simp only [Act.put, List.setIfInBounds_toArray, List.set_cons_zero, List.set_cons_succ]
                  refine wpAnyH_take (i := 13) (oi := ?oic13) (v := ?vc13) ?hic13 (by kernel_rfl) (by kernel_rfl) (by kernel_rfl) ?hQc13 ?hyc13 (by assumption) ?restc13
                  case hic13 => first | (simp only [List.getElem?_toArray, List.getElem?_cons_zero, List.getElem?_cons_succ]; rfl) | rfl
                  case hQc13 => exact fun _ _ _ h => h
                  case hyc13 => (refine Or.inl ⟨by rfl, ?_⟩; intro w hSw; (try dsimp only at hSw); go_simp; (try with_reducible rfl))
                  simp only [Act.put, List.setIfInBounds_toArray, List.set_cons_zero, List.set_cons_succ]
                  refine wpAnyH_take (i := 14) (oi := ?oic14) (v := undef) ?hic14 (by kernel_rfl) (by kernel_rfl) (by kernel_rfl) ?hQc14 ?hyc14 (by assumption) ?restc14
                  case hic14 => first | (simp only [List.getElem?_toArray, List.getElem?_cons_zero, List.getElem?_cons_succ]; rfl) | rfl
                  case hQc14 => exact fun _ _ _ h => h
                  case hyc14 => exact Or.inr ⟨by rfl, rfl⟩
                  simp only [Act.put, List.setIfInBounds_toArray, List.set_cons_zero, List.set_cons_succ]
                  refine wpAnyH_take (i := 15) (oi := ?oic15) (v := undef) ?hic15 (by kernel_rfl) (by kernel_rfl) (by kernel_rfl) ?hQc15 ?hyc15 (by assumption) ?restc15
                  case hic15 => first | (simp only [List.getElem?_toArray, List.getElem?_cons_zero, List.getElem?_cons_succ]; rfl) | rfl
                  case hQc15 => exact fun _ _ _ h => h
                  case hyc15 => exact Or.inr ⟨by rfl, rfl⟩
                  simp only [Act.put, List.setIfInBounds_toArray, List.set_cons_zero, List.set_cons_succ]
                  refine wpAnyH_take (i := 16) (oi := ?oic16) (v := undef) ?hic16 (by kernel_rfl) (by kernel_rfl) (by kernel_rfl) ?hQc16 ?hyc16 (by assumption) ?restc16
                  case hic16 => first | (simp only [List.getElem?_toArray, List.getElem?_cons_zero, List.getElem?_cons_succ]; rfl) | rfl
                  case hQc16 => exact fun _ _ _ h => h
                  case hyc16 => exact Or.inr ⟨by rfl, rfl⟩
                  simp only [Act.put, List.setIfInBounds_toArray, List.set_cons_zero, List.set_cons_succ]
                  refine wpAnyH_take (i := 17) (oi := ?oic17) (v := undef) ?hic17 (by kernel_rfl) (by kernel_rfl) (by kernel_rfl) ?hQc17 ?hyc17 (by assumption) ?restc17
                  case hic17 => first | (simp only [List.getElem?_toArray, List.getElem?_cons_zero, List.getElem?_cons_succ]; rfl) | rfl
                  case hQc17 => exact fun _ _ _ h => h
                  case hyc17 => exact Or.inr ⟨by rfl, rfl⟩
                  simp only [Act.put, List.setIfInBounds_toArray, List.set_cons_zero, List.set_cons_succ]
                  refine wpAnyH_take (i := 18) (oi := ?oic18) (v := undef) ?hic18 (by kernel_rfl) (by kernel_rfl) (by kernel_rfl) ?hQc18 ?hyc18 (by assumption) ?restc18
                  case hic18 => first | (simp only [List.getElem?_toArray, List.getElem?_cons_zero, List.getElem?_cons_succ]; rfl) | rfl
                  case hQc18 => exact fun _ _ _ h => h
                  case hyc18 => exact Or.inr ⟨by rfl, rfl⟩
                  simp only [Act.put, List.setIfInBounds_toArray, List.set_cons_zero, List.set_cons_succ]
                  refine wpAnyH_take (i := 19) (oi := ?oic19) (v := undef) ?hic19 (by kernel_rfl) (by kernel_rfl) (by kernel_rfl) ?hQc19 ?hyc19 (by assumption) ?restc19
                  case hic19 => first | (simp only [List.getElem?_toArray, List.getElem?_cons_zero, List.getElem?_cons_succ]; rfl) | rfl
                  case hQc19 => exact fun _ _ _ h => h
                  case hyc19 => exact Or.inr ⟨by rfl, rfl⟩
                  simp only [Act.put, List.setIfInBounds_toArray, List.set_cons_zero, List.set_cons_succ]
                  refine wpAnyH_take (i := 20) (oi := ?oic20) (v := ?vc20) ?hic20 (by kernel_rfl) (by kernel_rfl) (by kernel_rfl) ?hQc20 ?hyc20 (by assumption) ?restc20
                  case hic20 => first | (simp only [List.getElem?_toArray, List.getElem?_cons_zero, List.getElem?_cons_succ]; rfl) | rfl
                  case hQc20 => exact fun _ _ _ h => h
                  case hyc20 => (refine Or.inl ⟨by rfl, ?_⟩; intro w hSw; (try dsimp only at hSw); go_simp; (try with_reducible rfl))
                  simp only [Act.put, List.setIfInBounds_toArray, List.set_cons_zero, List.set_cons_succ]
                  refine wpAnyH_take (i := 21) (oi := ?oic21) (v := ?vc21) ?hic21 (by kernel_rfl) (by kernel_rfl) (by kernel_rfl) ?hQc21 ?hyc21 (by assumption) ?restc21
                  case hic21 => first | (simp only [List.getElem?_toArray, List.getElem?_cons_zero, List.getElem?_cons_succ]; rfl) | rfl
                  case hQc21 => exact fun _ _ _ h => h
                  case hyc21 => (refine Or.inl ⟨by rfl, ?_⟩; intro w hSw; (try dsimp only at hSw); go_simp; (try with_reducible rfl))
                  simp only [Act.put, List.setIfInBounds_toArray, List.set_cons_zero, List.set_cons_succ]
                  refine wpAnyH_done (by kernel_rfl) ?_ _
                  all_goals
                    have hp9 := HPD4.out.grown g9 hpd.out.2
                    have o19 := g9.cell o1 HOH.out
                    obtain ⟨hn9, -⟩ := hp9.cells
                    have HPS := Lib.hid (hp9.congr HFE.out)
                    have HS9 := Lib.hid hs9
                    clear hp9 hs9 g9 hz9 hpu
                    go_wp2_with fail
                    go_roundw
                    case rel => exact ⟨k + 1, g, h, putF M f K, by have := HLT.out.1; omega, by have := HLT.out.2; omega, rfl, by go_num, HS9, HPS, hpd⟩
                    case measure => have := HLT.out.2; simp [intOf]; omega
            · as_aux_lemma =>
                have d0 : decide (0 ≤ K) = false := decide_eq_false k0
                have HFE : Hid (∀ j, j < M → f j = putF M f K j) := fun j hj => by
                  unfold putF
                  have : ¬ (j : Int) = K := by omega
                  simp [this]
                have hpb : putB M f K = false := by
                  unfold putB
                  rw [decide_eq_false (by omega)]
                  rfl
                rw [hpb] at hpu
                have HS5 : Hid (w4.cell? ⟨OB, 1, none⟩ = some (.int .i64 K) ∧ True) := ⟨o1, trivial⟩
                clear hpb k0 o2
                go_wp2_with fail
                refine wp_region_held_drew (S := fun w' => w'.cell? ⟨OB, 1, none⟩ = some (.int .i64 K) ∧ True) (by kernel_rfl) HS5.out (fun hHeld => ?_)
                refine wpAnyH_take (i := 0) (oi := ?oia0) (v := ?va0) ?hia0 (by kernel_rfl) (by kernel_rfl) (by kernel_rfl) ?hQa0 ?hya0 (by assumption) ?resta0
                case hia0 => first | (simp only [List.getElem?_toArray, List.getElem?_cons_zero, List.getElem?_cons_succ]; rfl) | rfl
                case hQa0 => exact fun _ _ _ h => h
                case hya0 => (refine Or.inl ⟨by rfl, ?_⟩; intro w hSw; (try dsimp only at hSw); go_simp; (try with_reducible rfl))
                simp only [Act.put, List.setIfInBounds_toArray, List.set_cons_zero, List.set_cons_succ]
                refine wpAnyH_take (i := 1) (oi := ?oia1) (v := ?va1) ?hia1 (by kernel_rfl) (by kernel_rfl) (by kernel_rfl) ?hQa1 ?hya1 (by assumption) ?resta1
                case hia1 => first | (simp only [List.getElem?_toArray, List.getElem?_cons_zero, List.getElem?_cons_succ]; rfl) | rfl
                case hQa1 => exact fun _ _ _ h => h
                case hya1 => (refine Or.inl ⟨by rfl, ?_⟩; intro w hSw; (try dsimp only at hSw); go_simp; (try with_reducible rfl))
                simp only [Act.put, List.setIfInBounds_toArray, List.set_cons_zero, List.set_cons_succ]
                refine wpAnyH_take (i := 2) (oi := ?oia2) (v := ?va2) ?hia2 (by kernel_rfl) (by kernel_rfl) (by kernel_rfl) ?hQa2 ?hya2 (by assumption) ?resta2
                case hia2 => first | (simp only [List.getElem?_toArray, List.getElem?_cons_zero, List.getElem?_cons_succ]; rfl) | rfl
                case hQa2 => exact fun _ _ _ h => h
                case hya2 => (refine Or.inl ⟨by rfl, ?_⟩; intro w hSw; (try dsimp only at hSw); go_simp; (try with_reducible rfl))
                simp only [Act.put, List.setIfInBounds_toArray, List.set_cons_zero, List.set_cons_succ]
                refine wpAnyH_take (i := 4) (oi := ?oia4) (v := ?va4) ?hia4 (by kernel_rfl) (by kernel_rfl) (by kernel_rfl) ?hQa4 ?hya4 (by assumption) ?resta4
                case hia4 => first | (simp only [List.getElem?_toArray, List.getElem?_cons_zero, List.getElem?_cons_succ]; rfl) | rfl
                case hQa4 => exact fun _ _ _ h => h
                case hya4 => (refine Or.inl ⟨by rfl, ?_⟩; intro w hSw; (try dsimp only at hSw); go_simp; (try with_reducible rfl))
                simp only [Act.put, List.setIfInBounds_toArray, List.set_cons_zero, List.set_cons_succ]
                refine wpAnyH_take (i := 5) (oi := ?oia5) (v := ?va5) ?hia5 (by kernel_rfl) (by kernel_rfl) (by kernel_rfl) ?hQa5 ?hya5 (by assumption) ?resta5
                case hia5 => first | (simp only [List.getElem?_toArray, List.getElem?_cons_zero, List.getElem?_cons_succ]; rfl) | rfl
                case hQa5 => exact fun _ _ _ h => h
                case hya5 => (refine Or.inl ⟨by rfl, ?_⟩; intro w hSw; (try dsimp only at hSw); go_simp; (try with_reducible rfl))
                simp only [Act.put, List.setIfInBounds_toArray, List.set_cons_zero, List.set_cons_succ]
                refine wpAnyH_take (i := 6) (oi := ?oia6) (v := ?va6) ?hia6 (by kernel_rfl) (by kernel_rfl) (by kernel_rfl) ?hQa6 ?hya6 (by assumption) ?resta6
                case hia6 => first | (simp only [List.getElem?_toArray, List.getElem?_cons_zero, List.getElem?_cons_succ]; rfl) | rfl
                case hQa6 => exact fun _ _ _ h => h
                case hya6 => (refine Or.inl ⟨by rfl, ?_⟩; intro w hSw; (try dsimp only at hSw); go_simp; (try with_reducible rfl))
                simp only [Act.put, List.setIfInBounds_toArray, List.set_cons_zero, List.set_cons_succ]
                refine wpAnyH_ready (rs := [3]) (by kernel_rfl) (by simp) ?_
                refine AllReadyH.cons rfl (fun K hK => ?_) AllReadyH.nil
                go_simp
                go_at_call 10
                refine (hpu _ HSD4.out).mono ?_
                rintro e w9 ⟨rfl, hs9, g9, hz9⟩
                (try go_wp2_with fail)
                refine hK.out _ _ ⟨g9.cell HS5.out.1 HOH.out, trivial⟩ (fun hHeld => ?_)
                clear hK K
                (try simp only [Act.put, List.setIfInBounds_toArray, List.set_cons_zero, List.set_cons_succ])
                refine wpAnyH_take (i := 7) (oi := ?oia7) (v := ?va7) ?hia7 (by kernel_rfl) (by kernel_rfl) (by kernel_rfl) ?hQa7 ?hya7 (by assumption) ?resta7
                case hia7 => first | (simp only [List.getElem?_toArray, List.getElem?_cons_zero, List.getElem?_cons_succ]; rfl) | rfl
                case hQa7 => exact fun _ _ _ h => h
                case hya7 => (refine Or.inl ⟨by rfl, ?_⟩; intro w hSw; (try dsimp only at hSw); go_simp; (try with_reducible rfl))
                simp only [Act.put, List.setIfInBounds_toArray, List.set_cons_zero, List.set_cons_succ]
                refine wpAnyH_take (i := 8) (oi := ?oia8) (v := undef) ?hia8 (by kernel_rfl) (by kernel_rfl) (by kernel_rfl) ?hQa8 ?hya8 (by assumption) ?resta8
                case hia8 => first | (simp only [List.getElem?_toArray, List.getElem?_cons_zero, List.getElem?_cons_succ]; rfl) | rfl
                case hQa8 => exact fun _ _ _ h => h
                case hya8 => exact Or.inr ⟨by rfl, rfl⟩
                simp only [Act.put, List.setIfInBounds_toArray, List.set_cons_zero, List.set_cons_succ]
                refine wpAnyH_take (i := 9) (oi := ?oia9) (v := undef) ?hia9 (by kernel_rfl) (by kernel_rfl) (by kernel_rfl) ?hQa9 ?hya9 (by assumption) ?resta9
                case hia9 => first | (simp only [List.getElem?_toArray, List.getElem?_cons_zero, List.getElem?_cons_succ]; rfl) | rfl
                case hQa9 => exact fun _ _ _ h => h
                case hya9 => exact Or.inr ⟨by rfl, rfl⟩
                simp only [Act.put, List.setIfInBounds_toArray, List.set_cons_zero, List.set_cons_succ]
                refine wpAnyH_take (i := 10) (oi := ?oia10) (v := undef) ?hia10 (by kernel_rfl) (by kernel_rfl) (by kernel_rfl) ?hQa10 ?hya10 (by assumption) ?resta10
                case hia10 => first | (simp only [List.getElem?_toArray, List.getElem?_cons_zero, List.getElem?_cons_succ]; rfl) | rfl
                case hQa10 => exact fun _ _ _ h => h
                case hya10 => exact Or.inr ⟨by rfl, rfl⟩
                simp only [Act.put, List.setIfInBounds_toArray, List.set_cons_zero, List.set_cons_succ]
                refine wpAnyH_take (i := 11) (oi := ?oia11) (v := undef) ?hia11 (by kernel_rfl) (by kernel_rfl) (by kernel_rfl) ?hQa11 ?hya11 (by assumption) ?resta11
                case hia11 => first | (simp only [List.getElem?_toArray, List.getElem?_cons_zero, List.getElem?_cons_succ]; rfl) | rfl
                case hQa11 => exact fun _ _ _ h => h
                case hya11 => exact Or.inr ⟨by rfl, rfl⟩
                simp only [Act.put, List.setIfInBounds_toArray, List.set_cons_zero, List.set_cons_succ]
                refine wpAnyH_take (i := 12) (oi := ?oia12) (v := ?va12) ?hia12 (by kernel_rfl) (by kernel_rfl) (by kernel_rfl) ?hQa12 ?hya12 (by assumption) ?resta12
                case hia12 => first | (simp only [List.getElem?_toArray, List.getElem?_cons_zero, List.getElem?_cons_succ]; rfl) | rfl
                case hQa12 => exact fun _ _ _ h => h
                case hya12 => (refine Or.inl ⟨by rfl, ?_⟩; intro w hSw; (try dsimp only at hSw); go_simp; (try with_reducible rfl))
                simp only [Act.put, List.setIfInBounds_toArray, List.set_cons_zero, List.set_cons_succ]
                refine wpAnyH_take (i := 13) (oi := ?oia13) (v := ?va13) ?hia13 (by kernel_rfl) (by kernel_rfl) (by kernel_rfl) ?hQa13 ?hya13 (by assumption) ?resta13
                case hia13 => first | (simp only [List.getElem?_toArray, List.getElem?_cons_zero, List.getElem?_cons_succ]; rfl) | rfl
                case hQa13 => exact fun _ _ _ h => h
                case hya13 => (refine Or.inl ⟨by rfl, ?_⟩; intro w hSw; (try dsimp only at hSw); go_simp; (try with_reducible rfl))
                simp only [Act.put, List.setIfInBounds_toArray, List.set_cons_zero, List.set_cons_succ]
                refine wpAnyH_take (i := 14) (oi := ?oia14) (v := undef) ?hia14 (by kernel_rfl) (by kernel_rfl) (by kernel_rfl) ?hQa14 ?hya14 (by assumption) ?resta14
                case hia14 => first | (simp only [List.getElem?_toArray, List.getElem?_cons_zero, List.getElem?_cons_succ]; rfl) | rfl
                case hQa14 => exact fun _ _ _ h => h
                case hya14 => exact Or.inr ⟨by rfl, rfl⟩
                simp only [Act.put, List.setIfInBounds_toArray, List.set_cons_zero, List.set_cons_succ]
                refine wpAnyH_take (i := 15) (oi := ?oia15) (v := undef) ?hia15 (by kernel_rfl) (by kernel_rfl) (by kernel_rfl) ?hQa15 ?hya15 (by assumption) ?resta15
                case hia15 => first | (simp only [List.getElem?_toArray, List.getElem?_cons_zero, List.getElem?_cons_succ]; rfl) | rfl
                case hQa15 => exact fun _ _ _ h => h
                case hya15 => exact Or.inr ⟨by rfl, rfl⟩
                simp only [Act.put, List.setIfInBounds_toArray, List.set_cons_zero, List.set_cons_succ]
                refine wpAnyH_take (i := 16) (oi := ?oia16) (v := undef) ?hia16 (by kernel_rfl) (by kernel_rfl) (by kernel_rfl) ?hQa16 ?hya16 (by assumption) ?resta16
                case hia16 => first | (simp only [List.getElem?_toArray, List.getElem?_cons_zero, List.getElem?_cons_succ]; rfl) | rfl
                case hQa16 => exact fun _ _ _ h => h
                case hya16 => exact Or.inr ⟨by rfl, rfl⟩
                simp only [Act.put, List.setIfInBounds_toArray, List.set_cons_zero, List.set_cons_succ]
                refine wpAnyH_take (i := 17) (oi := ?oia17) (v := undef) ?hia17 (by kernel_rfl) (by kernel_rfl) (by kernel_rfl) ?hQa17 ?hya17 (by assumption) ?resta17
                case hia17 => first | (simp only [List.getElem?_toArray, List.getElem?_cons_zero, List.getElem?_cons_succ]; rfl) | rfl
                case hQa17 => exact fun _ _ _ h => h
                case hya17 => exact Or.inr ⟨by rfl, rfl⟩
                simp only [Act.put, List.setIfInBounds_toArray, List.set_cons_zero, List.set_cons_succ]
                refine wpAnyH_take (i := 18) (oi := ?oia18) (v := undef) ?hia18 (by kernel_rfl) (by kernel_rfl) (by kernel_rfl) ?hQa18 ?hya18 (by assumption) ?resta18
                case hia18 => first | (simp only [List.getElem?_toArray, List.getElem?_cons_zero, List.getElem?_cons_succ]; rfl) | rfl
                case hQa18 => exact fun _ _ _ h => h
                case hya18 => exact Or.inr ⟨by rfl, rfl⟩
                simp only [Act.put, List.setIfInBounds_toArray, List.set_cons_zero, List.set_cons_succ]
                refine wpAnyH_take (i := 19) (oi := ?oia19) (v := undef) ?hia19 (by kernel_rfl) (by kernel_rfl) (by kernel_rfl) ?hQa19 ?hya19 (by assumption) ?resta19
                case hia19 => first | (simp only [List.getElem?_toArray, List.getElem?_cons_zero, List.getElem?_cons_succ]; rfl) | rfl
                case hQa19 => exact fun _ _ _ h => h
                case hya19 => exact Or.inr ⟨by rfl, rfl⟩
                simp only [Act.put, List.setIfInBounds_toArray, List.set_cons_zero, List.set_cons_succ]
                refine wpAnyH_take (i := 20) (oi := ?oia20) (v := ?va20) ?hia20 (by kernel_rfl) (by kernel_rfl) (by kernel_rfl) ?hQa20 ?hya20 (by assumption) ?resta20
                case hia20 => first | (simp only [List.getElem?_toArray, List.getElem?_cons_zero, List.getElem?_cons_succ]; rfl) | rfl
                case hQa20 => exact fun _ _ _ h => h
                case hya20 => (refine Or.inl ⟨by rfl, ?_⟩; intro w hSw; (try dsimp only at hSw); go_simp; (try with_reducible rfl))
                simp only [Act.put, List.setIfInBounds_toArray, List.set_cons_zero, List.set_cons_succ]
                refine wpAnyH_take (i := 21) (oi := ?oia21) (v := ?va21) ?hia21 (by kernel_rfl) (by kernel_rfl) (by kernel_rfl) ?hQa21 ?hya21 (by assumption) ?resta21
                case hia21 => first | (simp only [List.getElem?_toArray, List.getElem?_cons_zero, List.getElem?_cons_succ]; rfl) | rfl
                case hQa21 => exact fun _ _ _ h => h
                case hya21 => (refine Or.inl ⟨by rfl, ?_⟩; intro w hSw; (try dsimp only at hSw); go_simp; (try with_reducible rfl))
                simp only [Act.put, List.setIfInBounds_toArray, List.set_cons_zero, List.set_cons_succ]
                refine wpAnyH_done (by kernel_rfl) ?_ _
                all_goals
                  have hp9 := HPD4.out.grown g9 hpd.out.2
                  have o19 := g9.cell o1 HOH.out
                  have HPS := Lib.hid (hp9.congr HFE.out)
                  have HS9 := Lib.hid hs9
                  clear hp9 hs9 g9 hz9 hpu
                  go_wp2_with fail
                  go_roundw
                  case rel => exact ⟨k + 1, g, h, putF M f K, by have := HLT.out.1; omega, by have := HLT.out.2; omega, rfl, by go_num, HS9, HPS, hpd⟩
                  case measure => have := HLT.out.2; simp [intOf]; omega
    · skip
      have hdd : n ≤ k ∨ (k < n ∧ 60 ≤ k) := by omega
      obtain ⟨hcn, hci⟩ := hcb
      have HSE := Lib.hid hset.out
      have HPE := Lib.hid hpi.out
      have HM3 : Hid (M < 300) := HM.out
      obtain ⟨we, rfl⟩ : ∃ we : World, we = wr := ⟨_, rfl⟩
      have hM3 : M < 300 := HM.out
      clear hlt hk hk6 hset hpi
      rcases hdd with hd1 | ⟨hd1, hd2⟩
      all_goals as_aux_lemma =>
        go_wp2_with fail
        go_loopw [18, 19, 20] (fun v x i wr => ∃ q : Nat, q ≤ M ∧ i = .int .i64 ((q : Int) - 1) ∧ x = .int .i64 (leastF f ask (M - q) q) ∧ Hid (OwnI wr we.heap.size v (lst f (M - q) q)) ∧ Hid (RW we wr)) (fun _ _ i _ => (intOf i + 1).toNat)
        case atStart => exact ⟨M, Nat.le_refl _, rfl, by rw [Nat.sub_self]; rfl, by rw [Nat.sub_self]; exact World.ownsRow_nil _ _ _ _, RW.refl we⟩
        case round =>
          obtain ⟨q, hq, rfl, rfl, hown, hrw⟩ := hrel
          obtain ⟨A7, c7, rfl, -, -, hR7⟩ := OwnI.read hown.out
          have hp := HPE.out.later hrw.out
          have hci := hp.cells.2
          rcases Nat.eq_zero_or_pos q with rfl | hq0
          · have hqd : decide ((0 : Int) ≤ ((0 : Nat) : Int) - 1) = false := by decide
            have hs := HSE.out.below hrw.out
            have hTT := hT.below hp.bel
            have hli := list_any wr hs hTT
            rw [Nat.sub_zero] at hown hR7 ⊢
            have HLE : Hid (leastF f ask M 0 = least f M ask) := leastF_is f ask M
            have HR7 : Hid (ReadI wr A7 (listOf f M).length (listOf f M)) := hR7
            have HLN : Hid ((lst f M 0).length = cnt f M) := length_listOf f M
            have HP := Lib.hid hp
            have HS := Lib.hid hs
            have hcl : (lst f M 0).length ≤ 300 := by have := lst_length f M 0; omega
            have hfo := HSE.out.out
            clear hs hTT hown hR7 hp
            go_wp2_with fail
            refine hli.mono ?_
            rintro e w1' ⟨v1, rfl, own1, hb1⟩
            obtain ⟨A8, c8, rfl, -, -, hR8⟩ := OwnI.read own1
            have hpl := plain_any (ca := c8) (cb := c7) w1' hR8 (HR7.out.below hb1)
            rw [decide_eq_true rfl] at hpl
            have HP1 := Lib.hid (HP.out.later hb1)
            have HS1 := Lib.hid (HS.out.below hb1)
            clear hli own1 hb1 hR8
            go_wp2_with fail
            refine hpl.mono ?_
            rintro e w2' ⟨rfl, hd⟩
            have HP2 := Lib.hid (HP1.out.later (hd.below _))
            have HS2 := Lib.hid (HS1.out.below (hd.below _))
            clear hd hpl
            go_wp2_with fail
            refine (len_any w2' HS2.out).mono ?_
            rintro e w3' ⟨rfl, rfl⟩
            rw [← HLN.out]
            go_wp2_with fail
            refine (has_any ask w2' HS2.out).mono ?_
            rintro e w3' ⟨rfl, rfl⟩
            go_wp2_with fail
            refine (play_has ask w2' HP2.out.cells.1 HP2.out.cells.2 HP2.out.row (by omega) hfo).mono ?_
            rintro e w3' ⟨rfl, rfl⟩
            go_wp2_with fail
            refine (least_any ask w2' HS2.out (hT.below HP2.out.bel)).mono ?_
            rintro e w3' ⟨rfl, rfl⟩
            rw [← HLE.out]
            go_wp2_with fail
            go_ret
            exact ⟨rfl, HP2.out.bel⟩
          · obtain ⟨p, rfl⟩ : ∃ p, q = p + 1 := ⟨q - 1, by omega⟩
            have hpM : p < M := by omega
            have hcp := RowF.cell hp.row hpM
            have hpe : (((p + 1 : Nat) : Int)) - 1 = (p : Int) := by omega
            have hpi : (0 : Int) ≤ (p : Int) ∧ (p : Int) < (M : Int) := by omega
            have hpd : decide ((0 : Int) ≤ (p : Int)) = true := by rw [decide_eq_true_eq]; omega
            have hsub : M - p = (M - (p + 1)) + 1 := by omega
            have HLS : Hid (lst f (M - p) p = if f p then (p : Int) :: lst f (M - (p + 1)) (p + 1) else lst f (M - (p + 1)) (p + 1)) := by unfold Hid; rw [hsub, lst]
            have HLF : Hid (leastF f ask (M - p) p = if f p && decide (ask ≤ (p : Int)) then (p : Int) else leastF f ask (M - (p + 1)) (p + 1)) := by unfold Hid; rw [hsub, leastF]
            have HPM := Lib.hid hpM
            have HL3 : Hid ((lst f (M - (p + 1)) (p + 1)).length ≤ 300) := by have := lst_length f (M - (p + 1)) (p + 1); unfold Hid; omega
            have HSZ := Lib.hid (Below.size hrw.out)
            have HRL := Lib.hid hR7
            rw [hpe]
            clear hsub hpe hq hq0 hpM hp hR7
            generalize lst f (M - (p + 1)) (p + 1) = ll at *
            generalize leastF f ask (M - (p + 1)) (p + 1) = lx at *
            cases hfp : f p
            · rw [hfp] at hcp
              have HLS2 : Hid (lst f (M - p) p = ll) := by have := HLS.out; rw [hfp] at this; exact this
              have HLF2 : Hid (leastF f ask (M - p) p = lx) := by have := HLF.out; rw [hfp] at this; exact this
              clear hfp HLS HLF
              go_wp2_with fail
              go_roundw
              case rel => exact ⟨p, by have := HPM.out; omega, rfl, by rw [HLF2.out], by rw [HLS2.out]; exact hown, hrw⟩
              case measure => first | (simp [intOf]; done) | (simp [intOf]; omega)
            · rw [hfp] at hcp
              have HLS2 : Hid (lst f (M - p) p = (p : Int) :: ll) := by have := HLS.out; rw [hfp] at this; exact this
              have HLF2 : Hid (leastF f ask (M - p) p = if decide (ask ≤ (p : Int)) then (p : Int) else lx) := by have := HLF.out; rw [hfp] at this; exact this
              clear hfp HLS HLF
              cases ha : decide (ask ≤ (p : Int))
              · rw [ha] at HLF2
                go_wp2_with (at_builtin; refine list_cons (W := wr) we.heap.size rfl _ _ rfl (p : Int) ll A7 c7 rfl rfl HRL.out HSZ.out (by have := HL3.out; omega) ?_; intro v1 w8 own8 hB8)
                have HR8 : Hid (RW we w8) := bel_trans hrw.out hB8
                obtain ⟨A9, n9, c9, rfl⟩ := OwnI.shape own8
                go_wp2_with fail
                go_roundw
                case rel => exact ⟨p, by have := HPM.out; omega, rfl, by rw [HLF2.out]; rfl, by rw [HLS2.out]; exact own8, HR8⟩
                case measure => first | (simp [intOf]; done) | (simp [intOf]; omega)
              · rw [ha] at HLF2
                go_wp2_with (at_builtin; refine list_cons (W := wr) we.heap.size rfl _ _ rfl (p : Int) ll A7 c7 rfl rfl HRL.out HSZ.out (by have := HL3.out; omega) ?_; intro v1 w8 own8 hB8)
                have HR8 : Hid (RW we w8) := bel_trans hrw.out hB8
                obtain ⟨A9, n9, c9, rfl⟩ := OwnI.shape own8
                go_wp2_with fail
                go_roundw
                case rel => exact ⟨p, by have := HPM.out; omega, rfl, by rw [HLF2.out]; rfl, by rw [HLS2.out]; exact own8, HR8⟩
                case measure => first | (simp [intOf]; done) | (simp [intOf]; omega)

theorem play_walk {A : Option Addr} {n c : Nat} {ops : List Opd} (N ask : Int) (w : World) (_ : -9223372036854775808 ≤ N ∧ N ≤ 9223372036854775807) (ho : ReadO w A n ops) (_ : -9223372036854775808 ≤ ask ∧ ask ≤ 9223372036854775807) (hT : TabAt w) :
    Calls Tryd.prog 5 #[.int .i64 N, .slice A n c, .int .i64 ask] w fun e w' => e = .returned (.bool true) ∧ Below w.heap.size w w' := play_law N ask w ho hT

end Go.Proofs.YtnldfjoadmehcaaDoor
