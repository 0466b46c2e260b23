/- lines.All; script.Run; awake -/
import Derived.Test.YtbnipgajhpbolaaGreatDoorTe46
import Derived.Test.YtbnipgajhpbolaaGreatDoorTe35
import Derived.Great.BuildSlice
import Derived.Lib.SlBytesConst
set_option linter.unusedVariables false
set_option linter.unusedSimpArgs false
namespace Go.Proofs.YtbnipgajhpbolaaGreatDoor

section
open Go.RowKit
def nats (l : List UInt8) : List Int := l.map fun b => (b.toNat : Int)
theorem bytes_nats (l : List UInt8) : Lib.bytesOf (nats l) = l := by
  unfold Lib.bytesOf nats
  rw [List.map_map]
  conv => rhs; rw [← List.map_id l]
  refine List.map_congr_left fun b _ => ?_
  simp
/-- Lines, as text: is there a last line's end? -/
def txt : List (List UInt8) → Bool → List UInt8
  | [], _ => []
  | [l], e => l ++ (if e then [10] else [])
  | l :: m :: L, e => l ++ 10 :: txt (m :: L) e
def LinesOk (L : List (List UInt8)) : Prop := ∀ l ∈ L, l ≠ [] ∧ (10 : UInt8) ∉ l
theorem idx_none {l : List UInt8} (h : (10 : UInt8) ∉ l) : Lib.index l [10] = -1 := Lib.index_none fun j hj => by
  unfold Lib.occAt
  cases hd : l.drop j with
  | nil => rfl
  | cons b r =>
    have hb : b ∈ l := (List.drop_sublist j l).subset (by rw [hd]; simp)
    have : b ≠ 10 := fun e => h (e ▸ hb)
    simp [List.isPrefixOf, Ne.symm this]
theorem idx_first {l r : List UInt8} (h : (10 : UInt8) ∉ l) : Lib.index (l ++ 10 :: r) [10] = l.length := by
  refine Lib.index_first (by simp) ?_ fun j hj => ?_
  · unfold Lib.occAt
    rw [List.drop_left]
    simp [List.isPrefixOf]
  · unfold Lib.occAt
    rw [List.drop_append_of_le_length (by omega)]
    cases hd : l.drop j with
    | nil => have := congrArg List.length hd; simp at this; omega
    | cons b q =>
      have hb : b ∈ l := (List.drop_sublist j l).subset (by rw [hd]; simp)
      have : b ≠ 10 := fun e => h (e ▸ hb)
      simp [List.isPrefixOf, Ne.symm this]
/-- The first line ends, or it is all. -/
theorem txt_step {l : List UInt8} {L : List (List UInt8)} {e : Bool} (h : LinesOk (l :: L)) : (L = [] ∧ e = false ∧ txt (l :: L) e = l ∧ Lib.index l [10] = -1) ∨ (txt (l :: L) e = l ++ 10 :: txt L e ∧ Lib.index (l ++ 10 :: txt L e) [10] = l.length) := by
  have hl := (h l (by simp)).2
  cases L with
  | nil =>
    cases e
    · exact .inl ⟨rfl, rfl, by simp [txt], idx_none hl⟩
    · exact .inr ⟨by simp [txt], idx_first hl⟩
  | cons m L => exact .inr ⟨rfl, idx_first hl⟩
theorem BytesIn_drop {w : World} {b o : Nat} {l r : List UInt8} (h : Lib.BytesIn w (some ⟨b, o, none⟩) (l ++ r).length (nats (l ++ r))) : Lib.BytesIn w (some ⟨b, o, none⟩) l.length (nats l) ∧ Lib.BytesIn w (some ⟨b, o + l.length, none⟩) r.length (nats r) := by
  constructor
  · intro hn
    obtain ⟨b', o', e, hc⟩ := h (by simp; omega)
    injection e with e
    injection e with e1 e2
    subst e1; subst e2
    refine ⟨_, _, rfl, fun i hi => ?_⟩
    rw [hc i (by simp; omega)]
    congr 2
    unfold nats
    rw [List.map_append, List.getD_eq_getElem?_getD, List.getD_eq_getElem?_getD, List.getElem?_append_left (by simpa using hi)]
  · intro hn
    obtain ⟨b', o', e, hc⟩ := h (by simp; omega)
    injection e with e
    injection e with e1 e2
    subst e1; subst e2
    refine ⟨_, _, rfl, fun i hi => ?_⟩
    rw [Nat.add_assoc, hc (l.length + i) (by simp; omega)]
    congr 2
    unfold nats
    rw [List.map_append, List.getD_eq_getElem?_getD, List.getD_eq_getElem?_getD, List.getElem?_append_right (by simp), List.length_map, Nat.add_sub_cancel_left]
theorem bytesIn_below {w w' : World} {p : Option Addr} {n : Nat} {xs : List Int} (h : Lib.BytesIn w p n xs) (hb : Below w.heap.size w w') : Lib.BytesIn w' p n xs := fun hn => by
  obtain ⟨b, o, e, hc⟩ := h hn
  exact ⟨b, o, e, fun i hi => cell_later hb (hc i hi)⟩
theorem nats_range (l : List UInt8) : ∀ x ∈ nats l, 0 ≤ x ∧ x < 256 := fun x hx => by
  obtain ⟨b, -, rfl⟩ := List.mem_map.1 hx
  have := b.toNat_lt
  omega
theorem cut_found {b o n c i : Nat} (h : i + 1 ≤ n) (hc : n ≤ c) : ∃ p', Lib.cutV (some ⟨b, o, none⟩) n c 1 (i : Int) = .tuple #[.slice (some ⟨b, o, none⟩) i c, .slice p' (n - (i + 1)) (c - (i + 1)), .bool true] ∧ (p' = none → c - (i + 1) = 0) ∧ (0 < n - (i + 1) → p' = some ⟨b, o + (i + 1), none⟩) := by
  unfold Lib.cutV Lib.fromV
  rw [if_pos (Int.natCast_nonneg i), Int.toNat_natCast]
  by_cases q : c = i + 1
  · rw [if_pos q]
    exact ⟨_, rfl, (fun e => by cases e), (fun k => by omega)⟩
  · rw [if_neg q]
    exact ⟨_, rfl, (fun e => by cases e), (fun _ => rfl)⟩
theorem cut_none {p : Option Addr} {n c : Nat} : Lib.cutV p n c 1 (-1) = .tuple #[.slice p n c, .slice none 0 0, .bool false] := by
  unfold Lib.cutV
  rw [if_neg (by decide)]

set_option maxHeartbeats 16000000 in
set_option maxRecDepth 100000 in
theorem all_any {L : List ByteArray} {e : Bool} {p : Option Addr} {n c : Nat} {mx : Int} (w : World) (hL : LinesOk (L.map fun l => l.data.toList)) (hk : L.length ≤ 1000000) (hn : n = (txt (L.map fun l => l.data.toList) e).length) (hB : Lib.BytesIn w p n (nats (txt (L.map fun l => l.data.toList) e))) (hp : p = none → c = 0) (hnc : n ≤ c) (hs : n < 4294967281) (hm : w.cell? ⟨0, 0, none⟩ = some (.int .i64 mx)) :
    Calls Tryz.prog 43 #[.slice p n c] w fun en w' => ∃ v, en = .returned v ∧ OwnS w' w.heap.size v L ∧ Below w.heap.size w w' := by
  have HL := Lib.hid (And.intro hL (And.intro hk (And.intro hs hm)))
  have HB := Lib.hid (And.intro hB (And.intro hp (And.intro hn hnc)))
  clear hL hk hn hB hp hs hm hnc
  go_enter Tryz.func43, Tryz.ntmps43
  go_wp2_with fail
  go_loopw [0, 3] (fun v0 v3 wr => ∃ (L1 L2 : List ByteArray) (p : Option Addr) (n c : Nat), v0 = .slice p n c ∧ Hid (L = L1 ++ L2 ∧ n ≤ c ∧ (p = none → c = 0) ∧ n = (txt (L2.map fun l => l.data.toList) e).length ∧ Lib.BytesIn w p n (nats (txt (L2.map fun l => l.data.toList) e)) ∧ OwnS wr w.heap.size v3 L1 ∧ Below w.heap.size w wr ∧ n < 4294967281)) (fun v0 _ _ => match v0 with | .slice _ n _ => n | _ => 0)
  case atStart => exact ⟨[], L, p, n, c, rfl, rfl, HB.out.2.2.2, HB.out.2.1, HB.out.2.2.1, HB.out.1, World.ownsRow_nil _ _ _ _, Below.refl _ _, HL.out.2.2.1⟩
  case round =>
    clear HB
    obtain ⟨L1, L2, p, n, c, rfl, hin⟩ := hrel
    cases L2 with
    | nil =>
      have hn0 : n = 0 := hin.out.2.2.2.1
      subst hn0
      have HIN := Lib.hid hin.out
      clear hin
      go_wp2_with fail
      go_ret
      refine ⟨_, rfl, ?_, HIN.out.2.2.2.2.2.2.1⟩
      have := HIN.out.1
      rw [List.append_nil] at this
      rw [this]
      exact HIN.out.2.2.2.2.2.1
    | cons l L2 =>
      obtain ⟨q1, q2, q3, q4, q5, q6, q7, q8⟩ := hin.out
      have hok : LinesOk (l.data.toList :: L2.map fun l => l.data.toList) := fun x hx => HL.out.1 x (by rw [q1]; simp at hx ⊢; exact .inr (by simpa using hx))
      have hl0 := (hok l.data.toList (by simp)).1
      have hlen0 : 0 < l.data.toList.length := List.length_pos_iff.2 hl0
      have hmap : ((l :: L2).map fun l => l.data.toList) = l.data.toList :: L2.map fun l => l.data.toList := rfl
      rw [hmap] at q4 q5
      have hn0 : 0 < n := by
        rw [q4]
        rcases txt_step (e := e) hok with ⟨-, -, k, -⟩ | ⟨k, -⟩
        · rw [k]; exact hlen0
        · rw [k, List.length_append]; omega
      obtain ⟨b, o, rfl, -⟩ := q5 hn0
      have hba := bel_alloc wr (.cells #[.int .u8 10] 5)
      have hsep : Lib.BytesIn (wr.alloc (.cells #[.int .u8 10] 5)) (some ⟨wr.heap.size, 0, none⟩) 1 [10] := fun _ => ⟨_, _, rfl, fun i hi => by
        obtain rfl : i = 0 := by omega
        exact (cell_blk (heap_alloc_new wr (.cells #[.int .u8 10] 5)) 0).trans rfl⟩
      have hcut := Tryz.bytes_Cut_all (some ⟨b, o, none⟩) (some ⟨wr.heap.size, 0, none⟩) n c 1 1 (nats (txt (l.data.toList :: L2.map fun l => l.data.toList) e)) [10] mx (wr.alloc (.cells #[.int .u8 10] 5)) (by rw [q4]; simp [nats]) rfl (nats_range _) (fun y hy => by simp at hy; omega) (bytesIn_below (bytesIn_below q5 q7) hba) hsep (fun e => by cases e) q2 q8 (by decide) (cell_later (bel_trans (Below.mono q7 (Nat.le_refl _)) hba) HL.out.2.2.2)
      rw [bytes_nats, show Lib.bytesOf [10] = [10] from rfl] at hcut
      have hn0i : (0 : Int) < (n : Int) := by omega
      have HQ := Lib.hid (And.intro q1 (And.intro q2 (And.intro q4 (And.intro q5 (And.intro q6 (And.intro q7 q8))))))
      have HOK := Lib.hid hok
      have HLEN : Hid (L1.length + 1 ≤ 1000000) := by
        have := HL.out.2.1
        rw [q1] at this
        simp at this
        unfold Hid; omega
      have hst := txt_step (e := e) hok
      generalize hT : txt (l.data.toList :: L2.map fun l => l.data.toList) e = T at *
      have key : ∃ (i c' : Nat) (p' : Option Addr) (bb : Bool), Lib.cutV (some ⟨b, o, none⟩) n c 1 (Lib.index T [10]) = .tuple #[.slice (some ⟨b, o, none⟩) l.data.toList.length c, .slice p' (txt (L2.map fun l => l.data.toList) e).length c', .bool bb] ∧ (txt (L2.map fun l => l.data.toList) e).length ≤ c' ∧ (p' = none → c' = 0) ∧ Lib.BytesIn w p' (txt (L2.map fun l => l.data.toList) e).length (nats (txt (L2.map fun l => l.data.toList) e)) ∧ (txt (L2.map fun l => l.data.toList) e).length < n ∧ Lib.BytesIn w (some ⟨b, o, none⟩) l.data.toList.length (nats l.data.toList) := by
        rcases hst with ⟨e1, e2, k1, k2⟩ | ⟨k1, k2⟩
        · obtain rfl : L2 = [] := by simpa using e1
          rw [k1] at q4 q5 ⊢
          refine ⟨0, 0, none, false, ?_, Nat.le_refl _, fun _ => rfl, Lib.BytesIn.nil _ _ _, hn0, q4 ▸ q5⟩
          rw [k2, cut_none, q4]
          rfl
        · rw [k1] at q4 q5 ⊢
          have hl : n = l.data.toList.length + 1 + (txt (L2.map fun l => l.data.toList) e).length := by rw [q4]; simp; omega
          obtain ⟨p', hc1, hc2, hc3⟩ := cut_found (b := b) (o := o) (n := n) (c := c) (i := l.data.toList.length) (by omega) q2
          have hsub : n - (l.data.toList.length + 1) = (txt (L2.map fun l => l.data.toList) e).length := by omega
          rw [hsub] at hc1 hc3
          rw [q4] at q5
          have d1 := BytesIn_drop q5
          have d2 := BytesIn_drop (l := [10]) (r := txt (L2.map fun l => l.data.toList) e) d1.2
          refine ⟨0, c - (l.data.toList.length + 1), p', true, by rw [k2, hc1], by omega, hc2, fun hp => ?_, by omega, d1.1⟩
          rw [hc3 hp]
          have := d2.2 hp
          rw [Nat.add_assoc] at this
          exact this
      obtain ⟨-, c', p', bb, hcv, r1, r2, r3, r4, r5⟩ := key
      rw [hcv] at hcut
      have hconv : ∀ q : Nat, (convert 60 9 (.slice (some ⟨b, o, none⟩) l.data.toList.length c)).run Tryz.prog ((wr.alloc (.cells #[.int .u8 10] 5)).drewN q) = .ok (.string l) ((wr.alloc (.cells #[.int .u8 10] 5)).drewN q) := fun q => by
        have h6 := bytesIn_below (bytesIn_below r5 q7) (below_draws hba q)
        obtain ⟨b', o', e6, hc6⟩ := h6 hlen0
        injection e6 with e6
        injection e6 with e7 e8
        subst e7; subst e8
        have := run_convert_bytes_back (P := Tryz.prog) ((wr.alloc (.cells #[.int .u8 10] 5)).drewN q) 60 9 5 ⟨b, o, none⟩ c l.data.toList Tryz.underlying60 Tryz.underlying5 Tryz.underlying9 (fun j hj => by
          rw [addr_add, hc6 j hj]
          unfold nats
          rw [List.getD_eq_getElem?_getD, List.getElem?_map, List.getElem?_eq_getElem hj]
          rfl)
        rw [this, Array.toArray_toList]
      generalize hT2 : txt (L2.map fun l => l.data.toList) e = T2 at *
      have HR := Lib.hid (And.intro r1 (And.intro r2 (And.intro r3 r4)))
      have HBA : Hid (∀ q, Below wr.heap.size wr ((wr.alloc (.cells #[.int .u8 10] 5)).drewN q)) := fun q => below_draws hba q
      have HT2 := Lib.hid hT2
      clear q1 q2 q4 q5 q6 q7 q8 hin hok hl0 hlen0 hmap hba hsep hst hcv r1 r2 r3 r4 r5 hT hT2
      generalize l.data.toList.length = ll at *
      go_wp2_with fail
      refine hcut.mono ?_
      rintro e4 w4 ⟨rfl, q, hw4⟩
      have hb4 := HBA.out q
      have hcv4 := hconv q
      rw [← hw4] at hb4 hcv4
      clear hcut hconv HBA hw4
      have n5 := heap_alloc_new w4 (.cells #[.string l] 9)
      have b5 := bel_alloc w4 (.cells #[.string l] 9)
      have HO5 : Hid (OwnS (w4.alloc (.cells #[.string l] 9)) w.heap.size u3 L1) := (HQ.out.2.2.2.2.1.later hb4).later b5
      have HZ5 : Hid (w.heap.size ≤ (w4.alloc (.cells #[.string l] 9)).heap.size) := by
        have h1 := HQ.out.2.2.2.2.2.1.size
        have h2 := hb4.size
        have h3 := b5.size
        unfold Hid; omega
      have HC5 : Hid ((w4.alloc (.cells #[.string l] 9)).cell? ⟨w4.heap.size, 0, none⟩ = some (.string l)) := (cell_blk n5 0).trans rfl
      have HB5 := Lib.hid (bel_trans hb4 b5)
      clear hb4 b5 n5
      go_wp2_with (at_builtin; refine list_appS w.heap.size rfl _ _ rfl u3 L1 rfl HO5.out HZ5.out w4.heap.size 0 1 l rfl HC5.out (by have := HLEN.out; omega) ?_; intro v6 w6 o6 g6 a6; have HO6 := Lib.hid (And.intro o6 g6); clear o6 g6 a6)
      go_roundw
      case rel =>
        refine ⟨L1 ++ [l], L2, p', T2.length, c', rfl, ?_⟩
        obtain ⟨r1, r2, r3, r4⟩ := HR.out
        obtain ⟨q1, -, -, -, q6, q7, q8⟩ := HQ.out
        refine ⟨by rw [q1]; simp, r1, r2, by rw [HT2.out], by rw [HT2.out]; exact r3, HO6.out.1, ?_, by omega⟩
        refine Below.grown (Below.trans q7 (HB5.out.mono q7.size)) HO6.out.2 HZ5.out fun k hk => ?_
        exact (World.ownsRow.lt q6 k hk).1
      case measure =>
        have := HR.out.2.2.2
        exact this
end

section
open Go.RowKit
theorem infoAnsB : (Tryz.prog.info? 36).map (fun i => (i.zero, i.size, i.bytes)) = some (some (.agg (ansC 0 0)), 6, 96) := by kernel_rfl
theorem arr6 (cs : Array Value) (h : cs.size = 6) : ∃ x0 x1 x2 x3 x4 x5, cs = #[x0, x1, x2, x3, x4, x5] := by
  obtain ⟨l⟩ := cs
  have hl : l.length = 6 := h
  match l, hl with
  | [a, b, c, d, e, f], _ => exact ⟨a, b, c, d, e, f, rfl⟩
/-- Answers in memory. -/
def OwnA (w : World) (base : Nat) (v : Value) (css : List (Array Value)) : Prop := w.ownsRow base 36 6 v css.length (css.flatMap fun c : Array Value => c.toList)
theorem app_ans {ops : Array Oper} {rest : List Oper} {o : Oper} {a : Act} {Q : Exit → Act → World → Prop} {W : World} (base z : Nat) (hz : z = W.heap.size) (hgd : o.guard = none) (s x : Operand)
    (ho : o.op = .call { callee := .builtin .append, args := #[s, x], argTypes := #[29, 29] })
    (v : Value) (css : List (Array Value)) (cs : Array Value) (hsz : cs.size = 6) (h1 : cs.all (·.oneCell') = true) (hs : a.eval s = v) (hx : a.eval x = .slice (some ⟨z, 0, none⟩) 1 1)
    (HO : OwnA W base v css) (hbase : base ≤ W.heap.size) (hl : css.length ≤ 1000000)
    (h : ∀ v1 w1, OwnA w1 base v1 (css ++ [cs]) → Below base W w1 → W.grownBy w1 v.ownBlock → wpList Tryz.prog ops Q rest (a.put o.dst v1) w1) :
    wpList Tryz.prog ops Q (o :: rest) a (W.alloc (.cells cs 36)) := by
  subst hz
  unfold OwnA at HO
  have e : (W.alloc (.cells cs 36)) = (W.alloc (.cells cs.toList.toArray 36)) := by simp
  rw [e]
  refine app_cells base hgd s x 29 36 (.agg (ansC 0 0)) 6 96 ho Tryz.underlying29 infoAnsB rfl (by decide) (by decide) v css.length (css.flatMap fun c : Array Value => c.toList) cs.toList hs hx (by simpa using hsz) (fun u hu => ?_) HO (Below.refl _ _) hbase (by omega) ?_
  · have := Array.all_eq_true'.1 h1 u (by simpa using hu)
    exact this
  · intro v1 w1 o1 b1 g1 _
    refine h v1 w1 ?_ b1 g1
    unfold OwnA
    rw [List.length_append, List.length_singleton, List.flatMap_append]
    simpa using o1
theorem OwnA.keep {W W' : World} {base : Nat} {v : Value} {css : List (Array Value)} (h : OwnA W base v css) (e : ∀ k, v.ownBlock = some k → W'.heap[k]? = W.heap[k]?) : OwnA W' base v css := by
  refine ⟨h.1, ?_⟩
  rcases h.2 with k | ⟨g, cap, cur, rfl, hb, hg, r⟩
  · exact .inl k
  · exact .inr ⟨g, cap, cur, rfl, hb, (e g rfl).trans hg, r⟩
theorem OwnS.keep {W W' : World} {base : Nat} {v : Value} {xs : List ByteArray} (h : OwnS W base v xs) (e : ∀ k, v.ownBlock = some k → W'.heap[k]? = W.heap[k]?) : OwnS W' base v xs := by
  refine ⟨h.1, ?_⟩
  rcases h.2 with k | ⟨g, cap, cur, rfl, hb, hg, r⟩
  · exact .inl k
  · exact .inr ⟨g, cap, cur, rfl, hb, (e g rfl).trans hg, r⟩
theorem OwnS.off {W : World} {base b2 : Nat} {v u : Value} {xs : List ByteArray} {css : List (Array Value)} (h : OwnS W base v xs) (k : OwnA W b2 u css) : ∀ g, v.ownBlock = some g → u.ownBlock ≠ some g := fun g e q => by
  rcases h.2 with a | ⟨g1, c1, cur1, rfl, -, hg1, -⟩
  · rw [a.1] at e; cases e
  · cases e
    rcases k.2 with a | ⟨g2, c2, cur2, rfl, -, hg2, -⟩
    · rw [a.1] at q; cases q
    · cases q
      rw [hg1] at hg2
      injection hg2 with hg2
      injection hg2 with _ hg2
      exact absurd hg2 (by decide)

/-- The answers so far. -/
def AnsL (P : Nat → Array Value → Prop) (css : List (Array Value)) : Prop := ∀ j (hj : j < css.length), P j css[j]
theorem AnsL.add {P : Nat → Array Value → Prop} {css : List (Array Value)} {cs : Array Value} (h : AnsL P css) (hp : P css.length cs) : AnsL P (css ++ [cs]) := fun j hj => by
  by_cases q : j < css.length
  · rw [List.getElem_append_left q]; exact h j q
  · have : j = css.length := by simp at hj; omega
    subst this
    simpa using hp

set_option maxHeartbeats 4000000 in
theorem snew_any (w : World) : Calls Tryz.prog 41 #[] w fun e w' => e = .returned (.pointer (some ⟨w.heap.size, 0, none⟩)) ∧ w' = w.alloc (.cells #[.int .i64 0, .slice none 0 0] 109) := by
  go_enter Tryz.func41, Tryz.ntmps41
  go_wp2_with fail
  go_ret
  exact ⟨rfl, rfl⟩
set_option maxHeartbeats 16000000 in
set_option maxRecDepth 100000 in
theorem run_any {L : List ByteArray} {e : Bool} {p : Option Addr} {n c : Nat} {mx : Int} {Nf : Nat → Int} {ef : Nat → List Ed} {P : Nat → Array Value → Prop} (w : World) (hL : LinesOk (L.map fun l => l.data.toList)) (hk : L.length ≤ 1000000) (hn : n = (txt (L.map fun l => l.data.toList) e).length) (hB : Lib.BytesIn w p n (nats (txt (L.map fun l => l.data.toList) e))) (hp : p = none → c = 0) (hnc : n ≤ c) (hs : n < 4294967281) (hm : w.cell? ⟨0, 0, none⟩ = some (.int .i64 mx)) (h0 : Nf 0 = 0 ∧ ef 0 = [])
    (hline : ∀ j (hj : j < L.length) (W : World), Below w.heap.size w W → SS w.heap.size (Nf j) (ef j) W → Calls Tryz.prog 42 #[.agg #[.pointer (some ⟨w.heap.size, 0, none⟩)], .string L[j]] W (SessQ w.heap.size (Nf (j + 1)) (ef (j + 1)) (P j) W)) :
    Calls Tryz.prog 23 #[.slice p n c] w fun en w' => ∃ v css, en = .returned v ∧ OwnA w' w.heap.size v css ∧ css.length = L.length ∧ AnsL P css ∧ Below w.heap.size w w' := by
  have b1 := bel_alloc w (.cells #[.int .i64 0, .slice none 0 0] 109)
  have n1 := heap_alloc_new w (.cells #[.int .i64 0, .slice none 0 0] 109)
  have HS1 : Hid (SS w.heap.size (Nf 0) (ef 0) (w.alloc (.cells #[.int .i64 0, .slice none 0 0] 109))) := by
    rw [h0.1, h0.2]
    exact ⟨_, n1, World.ownsRow_nil _ _ _ _⟩
  have hall := all_any (e := e) (p := p) (c := c) (w.alloc (.cells #[.int .i64 0, .slice none 0 0] 109)) hL hk hn (bytesIn_below hB b1) hp hnc hs (cell_later b1 hm)
  have HLN := Lib.hid hline
  have HK := Lib.hid hk
  have HB1 := Lib.hid b1
  clear hL hn hB hp hnc hs hm h0 hline b1 n1 hk
  go_enter Tryz.func23, Tryz.ntmps23
  go_wp2_with fail
  refine (snew_any w).mono ?_
  rintro e1 w1 ⟨rfl, rfl⟩
  go_wp2_with fail
  generalize hw1 : (w.alloc (.cells #[.int .i64 0, .slice none 0 0] 109)) = w1 at *
  have HZ1 : Hid (w1.heap.size = w.heap.size + 1) := by unfold Hid; rw [← hw1]; simp
  clear hw1
  refine hall.mono ?_
  rintro e2 w2 ⟨v, rfl, o2, hb2⟩
  have HB2 := Lib.hid (bel_trans HB1.out hb2)
  have HS2 := Lib.hid (HS1.out.later hb2)
  have ho2 : OwnS w2 (w.heap.size + 1) v L := by rw [← HZ1.out]; exact o2
  clear hall o2 hb2
  have hsh : ∃ A c, v = .slice A L.length c := by
    rcases ho2.2 with ⟨q, h0⟩ | ⟨g, cap, cur, q, -⟩
    · exact ⟨none, 0, by rw [q, h0]⟩
    · exact ⟨_, cap, q⟩
  obtain ⟨A, cv, rfl⟩ := hsh
  have HO2 := Lib.hid ho2
  clear ho2
  go_wp2_with fail
  go_loopw [4, 13] (fun v4 i wr => ∃ css : List (Array Value), css.length ≤ L.length ∧ i = .int .i64 css.length ∧ Hid (OwnA wr (w.heap.size + 1) v4 css ∧ AnsL P css ∧ SS w.heap.size (Nf css.length) (ef css.length) wr ∧ Below w.heap.size w wr ∧ OwnS wr (w.heap.size + 1) (.slice A L.length cv) L)) (fun _ i _ => L.length - (intOf i).toNat)
  case atStart => exact ⟨[], Nat.zero_le _, rfl, World.ownsRow_nil _ _ _ _, fun j hj => absurd hj (Nat.not_lt_zero _), HS2.out, HB2.out, HO2.out⟩
  case round =>
    clear HO2 HB2 HS2
    obtain ⟨css, hj, rfl, hin⟩ := hrel
    by_cases hlt : css.length < L.length
    · have HLT := Lib.hid hlt
      have HIN := Lib.hid hin.out
      obtain ⟨g, cap, hv, hg1, hg2, hg3, hcl⟩ := HIN.out.2.2.2.2.at (by omega)
      simp only [Value.slice.injEq] at hv
      obtain ⟨rfl, -, rfl⟩ := hv
      have hck := hcl css.length _ (List.getElem?_eq_getElem hlt)
      have hli := HLN.out css.length hlt wr HIN.out.2.2.2.1 HIN.out.2.2.1
      have HLI := Lib.hid hli
      have ew := wrap_one (show css.length ≤ 1000000 by have := HK.out; omega)
      have hki : (0 : Int) ≤ (css.length : Int) ∧ (css.length : Int) < (L.length : Int) := ⟨Int.natCast_nonneg _, Int.ofNat_lt.2 hlt⟩
      generalize L[css.length] = ln at *
      clear hin hlt hj hcl hg1 hg2 hg3 hli
      go_wp2_with fail
      refine HLI.out.mono ?_
      rintro e3 w3 ⟨cs, rfl, hsz, h1c, hpc, hs3, hm3⟩
      have HO3 : Hid (OwnA w3 (w.heap.size + 1) u4 css) := HIN.out.1.keep fun k e => by
        have h1 := World.ownsRow.lt HIN.out.1 k e
        exact hm3.block k h1.2 (fun q => by unfold KS at q; omega)
      have HT3 : Hid (OwnS w3 (w.heap.size + 1) (.slice (some ⟨g, 0, none⟩) L.length cv) L) := HIN.out.2.2.2.2.keep fun k e => by
        have h1 := World.ownsRow.lt HIN.out.2.2.2.2 k e
        exact hm3.block k h1.2 (fun q => by unfold KS at q; omega)
      have HB3 : Hid (Below w.heap.size w w3) := Below.trans HIN.out.2.2.2.1 (hm3.below (fun k hk => by unfold KS at hk; omega) HIN.out.2.2.2.1.size)
      have HS3 := Lib.hid (And.intro hs3 hpc)
      have HZ3 : Hid (w.heap.size + 1 ≤ w3.heap.size) := hs3.lt
      obtain ⟨x0, x1, x2, x3, x4, x5, rfl⟩ := arr6 cs hsz
      have HC := Lib.hid (And.intro hsz h1c)
      clear hsz h1c hpc hs3 hm3 HLI
      go_wp2_with (at_builtin; refine app_ans (w.heap.size + 1) w3.heap.size rfl rfl _ _ rfl u4 css #[x0, x1, x2, x3, x4, x5] HC.out.1 HC.out.2 rfl rfl HO3.out HZ3.out (by have := HK.out; have := HLT.out; omega) ?_; intro v5 w5 o5 b5 g5; have HO5 := Lib.hid (And.intro o5 (And.intro b5 g5)); clear o5 b5 g5)
      have HI : Hid (OwnA w5 (w.heap.size + 1) v5 (css ++ [#[x0, x1, x2, x3, x4, x5]]) ∧ AnsL P (css ++ [#[x0, x1, x2, x3, x4, x5]]) ∧ SS w.heap.size (Nf (css.length + 1)) (ef (css.length + 1)) w5 ∧ Below w.heap.size w w5 ∧ OwnS w5 (w.heap.size + 1) (.slice (some ⟨g, 0, none⟩) L.length cv) L) := by
        obtain ⟨o5, b5, g5⟩ := HO5.out
        refine ⟨o5, HIN.out.2.1.add HS3.out.2, ?_, ?_, ?_⟩
        · obtain ⟨v, h1, h2⟩ := HS3.out.1
          refine ⟨v, (g5.block _ (by have := HZ3.out; omega) (fun e => ?_)).trans h1, ?_⟩
          · have := (World.ownsRow.lt HO3.out _ e.symm).1
            omega
          · refine ⟨h2.1, ?_⟩
            rcases h2.2 with q | ⟨g', cap', cur', q, hb, hg, r⟩
            · exact .inl q
            · refine .inr ⟨g', cap', cur', q, hb, (g5.block _ (blk_lt hg) fun e => ?_).trans hg, r⟩
              rcases HO3.out.2 with a | ⟨g2, c2, cur2, a, -, hg2, -⟩
              · rw [a.1] at e; cases e
              · rw [a] at e
                have e2 : g' = g2 := Option.some.inj e
                subst e2
                rw [hg] at hg2
                injection hg2 with hg2
                injection hg2 with _ hg2
                exact absurd hg2 (by decide)
        · exact Below.trans HB3.out (b5.mono (by have := HZ3.out; omega))
        · exact HT3.out.keep fun k e => g5.block k (World.ownsRow.lt HT3.out k e).2 fun q => HT3.out.off HO3.out k e q.symm
      clear HO5 HS3 HT3 HO3 hck
      go_wp2_with fail
      go_roundw
      case rel => exact ⟨css ++ [#[x0, x1, x2, x3, x4, x5]], by have := HLT.out; simp; omega, by simp, by rw [List.length_append, List.length_singleton]; exact HI.out⟩
      case measure => have := HLT.out; simp only [intOf, Int.toNat_natCast]; omega
    · have hje : css.length = L.length := by omega
      have HIN := Lib.hid hin.out
      have HJ := Lib.hid hje
      rw [hje]
      clear hin hj hlt
      go_wp2_with fail
      go_ret
      refine ⟨_, css, rfl, ?_, HJ.out, HIN.out.2.1, HIN.out.2.2.2.1⟩
      exact row_weaken HIN.out.1 (by omega)
end

section
open Go.RowKit
def ba (l : List UInt8) : ByteArray := ⟨l.toArray⟩
def ln0 : List UInt8 := [118, 101, 114, 116, 105, 99, 101, 115, 32, 50]
def ln1 : List UInt8 := [97, 100, 100, 32, 48, 32, 49]
def ln2 : List UInt8 := [109, 97, 116, 99, 104, 32, 49]
def awL : List ByteArray := [ba ln0, ba ln1, ba ln2]
theorem digO_one {b : UInt8} (h : 48 ≤ b.toNat ∧ b.toNat ≤ 57) : DigO [b] := ⟨by simp, fun x hx => by
  have : x = b := by simpa using hx
  rw [this]; exact h, fun k => by simp at k⟩
set_option maxRecDepth 100000 in
theorem line0 : LineO (ba ln0) 1 [ba [118, 101, 114, 116, 105, 99, 101, 115], ba [50]] 2 0 where
  sz := by decide
  sp := by kernel_rfl
  len := by kernel_rfl
  kind := by decide
  w0 := ⟨_, rfl, fun j hj => by
    obtain rfl : j = 0 := by omega
    kernel_rfl, by kernel_rfl⟩
  num := ⟨1, by kernel_rfl, by decide, rfl⟩
  dig := fun x hx => by
    have : x = ba [50] := by simpa using hx
    rw [this]; exact digO_one (by decide)
  va := by kernel_rfl
  vb := by kernel_rfl
  mat := fun h => by cases h
set_option maxRecDepth 100000 in
theorem line1 : LineO (ba ln1) 2 [ba [97, 100, 100], ba [48], ba [49]] 0 1 where
  sz := by decide
  sp := by kernel_rfl
  len := by kernel_rfl
  kind := by decide
  w0 := ⟨_, rfl, fun j hj => by
    rcases (show j = 0 ∨ j = 1 by omega) with rfl | rfl <;> kernel_rfl, by kernel_rfl⟩
  num := ⟨2, by kernel_rfl, by decide, rfl⟩
  dig := fun x hx => by
    have : x = ba [48] ∨ x = ba [49] := by simpa using hx
    rcases this with rfl | rfl <;> exact digO_one (by decide)
  va := by kernel_rfl
  vb := by kernel_rfl
  mat := fun h => by cases h
set_option maxRecDepth 100000 in
theorem line2 : LineO (ba ln2) 6 [ba [109, 97, 116, 99, 104], ba [49]] 1 0 where
  sz := by decide
  sp := by kernel_rfl
  len := by kernel_rfl
  kind := by decide
  w0 := ⟨_, rfl, fun j hj => by
    rcases (show j = 0 ∨ j = 1 ∨ j = 2 ∨ j = 3 ∨ j = 4 ∨ j = 5 by omega) with rfl | rfl | rfl | rfl | rfl | rfl <;> kernel_rfl, by kernel_rfl⟩
  num := ⟨1, by kernel_rfl, by decide, rfl⟩
  dig := fun x hx => by
    have : x = ba [49] := by simpa using hx
    rw [this]; exact digO_one (by decide)
  va := by kernel_rfl
  vb := by kernel_rfl
  mat := fun _ => .inl rfl
theorem aw_ok : LinesOk (awL.map fun l => l.data.toList) := fun l hl => by
  have : l = ln0 ∨ l = ln1 ∨ l = ln2 := by simpa [awL, ba] using hl
  rcases this with rfl | rfl | rfl <;> exact ⟨by simp [ln0, ln1, ln2], by decide⟩
theorem k2_right : rightB ((2 : Nat) : Int) [(0, 1)] = true := by kernel_rfl
theorem k2_one {ms : List Int} {t : Fo} (h : MatchN 2 [(0, 1)] ms) (i : FoI 2 (JV [(0, 1)]) (gi ms) t) (d : t.Done 2 (JV [(0, 1)])) : (edgesM ms).length = 1 := by
  have hr := (rightB_iff.1 k2_right).2.2.2
  have h' : MatchN 2 [(0, 1)] [1, 0] := by
    refine ⟨rfl, fun v hv => ?_⟩
    rcases (show v = 0 ∨ v = 1 by omega) with rfl | rfl
    · exact .inr ⟨1, by decide, rfl, by decide, rfl⟩
    · exact .inr ⟨0, by decide, rfl, by decide, rfl⟩
  have a := FoI.max hr (fun x y h => h) (jv_ok hr h) i d (fun _ _ => rfl) h h'
  have c := match_count hr h
  have e : (sel (freeB [1, 0]) 2).length = 0 := by decide
  omega
def awN : Nat → Int | 0 => 0 | _ => 2
def awE : Nat → List Ed | 0 => [] | 1 => [] | _ => [(0, 1)]
def awP : Nat → Array Value → Prop | 0 => fun cs => cs = ansC 0 0 | 1 => fun cs => cs = ansC 0 0 | _ => MatchA 2 [(0, 1)]
theorem aw_last : LastO 2 [] 0 1 := ⟨by kernel_rfl, by decide, fun e he => by simp at he, by decide⟩
theorem cmd0 : CmdO 1 1 2 0 := ⟨by decide, ⟨by kernel_rfl, by decide⟩, by decide, fun _ => rfl, fun h => absurd h (by decide), fun h => by cases h⟩
theorem cmd1 : CmdO 2 2 0 1 := ⟨by decide, ⟨by kernel_rfl, by decide⟩, by decide, fun h => absurd h (by decide), fun h => absurd h (by decide), fun h => by cases h⟩
theorem cmd2 : CmdO 6 1 1 0 := ⟨by decide, ⟨by kernel_rfl, by decide⟩, by decide, fun _ => rfl, fun h => absurd h (by decide), fun _ => .inl rfl⟩
theorem aw_line {mx : Int} (w : World) (hm : w.cell? ⟨0, 0, none⟩ = some (.int .i64 mx)) (hit : ItoaL w 2) (S : Nat) : ∀ j (hj : j < awL.length) (W : World), Below w.heap.size w W → SS S (awN j) (awE j) W → Calls Tryz.prog 42 #[.agg #[.pointer (some ⟨S, 0, none⟩)], .string awL[j]] W (SessQ S (awN (j + 1)) (awE (j + 1)) (awP j) W)
  | 0, _, W, hb, hs => line_any W line0 (cell_later hb hm) hs fun W' hb' => do1_any W' hit ⟨by decide, by decide⟩ (Below.trans hb (hb'.mono hb.size)) cmd0 (hs.later hb') fun W'' hb'' => vertices_any W'' ((hs.later hb').later hb'') (by decide)
  | 1, _, W, hb, hs => line_any W line1 (cell_later hb hm) hs fun W' hb' => do2_any W' hit ⟨by decide, by decide⟩ (Below.trans hb (hb'.mono hb.size)) cmd1 (hs.later hb') fun W'' hb'' => sadd_any W'' ((hs.later hb').later hb'') aw_last
  | 2, _, W, hb, hs => line_any W line2 (cell_later hb hm) hs fun W' hb' => do6_any W' hit ⟨by decide, by decide⟩ (Below.trans hb (hb'.mono hb.size)) cmd2 (hs.later hb') fun W'' hb'' => match_any W'' ((hs.later hb').later hb'') k2_right
  | j + 3, hj, _, _, _ => absurd hj (by simp [awL])

/-- The cells of three answers. -/
theorem OwnA.three {W : World} {base : Nat} {v : Value} {css : List (Array Value)} (h : OwnA W base v css) (hl : css.length = 3) (hp : AnsL awP css) : ∃ g cap, v = .slice (some ⟨g, 0, none⟩) 3 cap ∧ W.cell? ⟨g, 13, none⟩ = some (.int .i64 1) := by
  obtain ⟨c0, c1, c2, rfl⟩ : ∃ c0 c1 c2, css = [c0, c1, c2] := by
    match css, hl with
    | [a, b, c], _ => exact ⟨a, b, c, rfl⟩
  have h0 : c0 = ansC 0 0 := hp 0 (by simp)
  have h1 : c1 = ansC 0 0 := hp 1 (by simp)
  obtain ⟨ms, t, x, y, m1, m2, m3, h2⟩ : MatchA 2 [(0, 1)] c2 := hp 2 (by simp)
  rw [k2_one m1 m2 m3] at h2
  subst h0; subst h1; subst h2
  rcases h.2 with ⟨-, q⟩ | ⟨g, cap, cur, rfl, hb, hg, hle, hm, hs, ht⟩
  · simp at q
  · refine ⟨g, cap, rfl, ?_⟩
    rw [cell_blk hg 13]
    have e := congrArg (fun l => l[13]?) ht
    simp only [List.length_cons, List.length_nil] at e
    rw [List.getElem?_take, if_pos (by decide), Array.getElem?_toList] at e
    rw [e]
    rfl

set_option maxHeartbeats 16000000 in
set_option maxRecDepth 100000 in
theorem awake_any {mx : Int} (w : World) (hm : w.cell? ⟨0, 0, none⟩ = some (.int .i64 mx)) (hit : ∀ W, Below w.heap.size w W → ItoaL W 2) :
    Calls Tryz.prog 10 #[] w fun e w' => e = .returned (.bool true) ∧ Below w.heap.size w w' := by
  have kc := fun (w : World) (C : Array Value) (n c : Nat) => Lib.run_convert_bytes_const (P := Tryz.prog) w 60 5 C n c Tryz.underlying60 Tryz.underlying5
  have HM := Lib.hid hm
  have HIT := Lib.hid hit
  clear hm hit
  go_enter Tryz.func10, Tryz.ntmps10
  go_wp2_with fail
  have hC : (#[.int .u8 118, .int .u8 101, .int .u8 114, .int .u8 116, .int .u8 105, .int .u8 99, .int .u8 101, .int .u8 115, .int .u8 32, .int .u8 50, .int .u8 10, .int .u8 97, .int .u8 100, .int .u8 100, .int .u8 32, .int .u8 48, .int .u8 32, .int .u8 49, .int .u8 10, .int .u8 109, .int .u8 97, .int .u8 116, .int .u8 99, .int .u8 104, .int .u8 32, .int .u8 49] : Array Value) = ((nats (txt (awL.map fun l => l.data.toList) false)).map (Value.int .u8)).toArray := by kernel_rfl
  generalize hCC : (#[.int .u8 118, .int .u8 101, .int .u8 114, .int .u8 116, .int .u8 105, .int .u8 99, .int .u8 101, .int .u8 115, .int .u8 32, .int .u8 50, .int .u8 10, .int .u8 97, .int .u8 100, .int .u8 100, .int .u8 32, .int .u8 48, .int .u8 32, .int .u8 49, .int .u8 10, .int .u8 109, .int .u8 97, .int .u8 116, .int .u8 99, .int .u8 104, .int .u8 32, .int .u8 49] : Array Value) = C at *
  have hba := bel_alloc w (.cells C 5 (26, 27))
  have hbs : Lib.BytesIn (w.alloc (.cells C 5 (26, 27))) (some ⟨w.heap.size, 0, none⟩) 26 (nats (txt (awL.map fun l => l.data.toList) false)) := fun _ => ⟨_, _, rfl, fun i hi => by
    rw [Nat.zero_add, World.cell?_alloc_mark, hC]
    have hl : i < (nats (txt (awL.map fun l => l.data.toList) false)).length := hi
    rw [List.getElem?_toArray, List.getElem?_map, List.getElem?_eq_getElem hl, List.getD_eq_getElem?_getD, List.getElem?_eq_getElem hl]
    rfl⟩
  have hru := run_any (L := awL) (e := false) (p := some ⟨w.heap.size, 0, none⟩) (n := 26) (c := 26) (P := awP) (Nf := awN) (ef := awE) (w.alloc (.cells C 5 (26, 27))) aw_ok (by decide) (by kernel_rfl) hbs (fun e => by cases e) (Nat.le_refl _) (by decide) (cell_later hba HM.out) ⟨rfl, rfl⟩ (fun j hj W hb hs => aw_line _ (cell_later hba HM.out) (HIT.out _ hba) _ j hj W hb hs)
  have HB := Lib.hid hba
  clear hC hCC kc hbs hba
  refine hru.mono ?_
  rintro e w2 ⟨v, css, rfl, o2, hl2, ha2, hb2⟩
  have HB2 := Lib.hid (bel_trans HB.out hb2)
  obtain ⟨g, cap, rfl, hc13⟩ := o2.three hl2 ha2
  clear hru o2 hb2 ha2
  go_wp2_with fail
  go_ret
  exact ⟨rfl, HB2.out⟩
end

end Go.Proofs.YtbnipgajhpbolaaGreatDoor
