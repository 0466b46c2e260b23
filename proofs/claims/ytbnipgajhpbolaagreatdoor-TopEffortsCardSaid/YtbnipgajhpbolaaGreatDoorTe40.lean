/- The walk of phased.run; pieces.Of: pieces without some vertices; pieces, plainly: what hangs together -/
import Derived.Test.YtbnipgajhpbolaaGreatDoorTe39
import Derived.Test.YtbnipgajhpbolaaGreatDoorTe37
set_option linter.unusedVariables false
set_option linter.unusedSimpArgs false
namespace Go.Proofs.YtbnipgajhpbolaaGreatDoor

section
open Go.RowKit
section
variable {N : Nat} {es : List Ed} {ms : List Int}
/-- What a phase tells. -/
def RunQ (N : Nat) (es : List Ed) (ms : List Int) (w : World) (e : Ending) (w' : World) : Prop := ∃ (out : Value) (L : List (List Int)) (lk : Int), e = .returned (.tuple #[out, .int .i64 lk]) ∧ 0 ≤ lk ∧ lk ≤ 4 * es.length ∧ Below w.heap.size w w' ∧ OW w.heap.size (fun _ => False) out L w' ∧ (∀ l ∈ L, ∃ r u, Aug N (JV es) ms l r u) ∧ L.Pairwise (fun a b => ∀ x ∈ a, x ∉ b) ∧ (L = [] → ∃ t : Fo, FoI N (JV es) (gi ms) t ∧ t.Done N (JV es))
theorem OW.weak {base : Nat} {K : Nat → Prop} {v : Value} {L : List (List Int)} {W : World} (h : OW base K v L W) : OW base (fun _ => False) v L W := by
  obtain ⟨vs, h1, h2, h3, h4⟩ := h.ex
  refine ⟨vs, h1, h2, fun k _ q => q, fun j hj hl => ?_⟩
  obtain ⟨GA, CA, n, e, o, -, q⟩ := h4 j hj hl
  exact ⟨GA, CA, n, e, o, fun q => q, q⟩

set_option maxHeartbeats 16000000 in
set_option maxRecDepth 100000 in
theorem prun_any {G b0 mc : Nat} {M : Option Addr} {vs : Nat → Value} (w : World) (hN : N ≤ 4096) (hE : es.length ≤ 65536) (hr : Rise N es) (hms : MatchN N es ms) (hnr : Rows w G b0 N vs fun v => nearV es v) (hm : MR w.heap.size N (.slice M N mc) (gi ms) w) :
    Calls Tryz.prog 35 #[.slice (some ⟨G, 0, none⟩) N N, .slice M N mc] w (RunQ N es ms w) := by
  have HMT := Lib.hid (jv_ok hr hms)
  have HM := Lib.hid hm
  have HNR := Lib.hid hnr
  have HRI := Lib.hid hr
  have hnew := fnew_any (A := some ⟨G, 0, none⟩) (c := N) (gi ms) w (by omega) hm
  clear hm hnr hr hms
  go_enter Tryz.func35, Tryz.ntmps35
  go_wp2_with fail
  refine hnew.mono ?_
  rintro e w1 ⟨F, g, s0, rfl, hf1, hn1, hb1⟩
  obtain ⟨hq1, hi1, hu1⟩ := PQ.start (es := es) HMT.out hn1
  have H1 : Hid (FG w.heap.size N F g (.slice (some ⟨G, 0, none⟩) N N) (.slice M N mc) (JV es) (gi ms) s0 (fun z => z) w1) := ⟨hf1, ⟨_, _, hu1⟩, hi1, fun z hz => by rw [(hn1.2.2.1 z).2, hn1.2.2.2.1]; exact Int.le_refl _, by rw [hn1.2.2.2.1]; exact Int.le_refl _⟩
  have HQ1 := Lib.hid hq1
  have HT1 : Hid (s0.tu ≤ s0.lk) := by unfold Hid; rw [hn1.2.2.2.1, hn1.2.2.2.2.1]; exact Int.le_refl _
  have HG1 : Hid (∀ z, s0.gn z = false) := by
    have := SQ.start (es := es) HMT.out hn1
    exact this.1.gn
  have HB1 := Lib.hid hb1
  have hqn := qnew_any (base := w.heap.size) w1 hb1.size
  clear hf1 hn1 hb1 hq1 hi1 hu1 hnew
  go_wp2_with fail
  refine hqn.mono ?_
  rintro e w2 ⟨rfl, q2, b2⟩
  have HW2 := Lib.hid (And.intro q2 b2)
  have hb3 := bel_alloc w2 (.cells #[.pointer (some ⟨F, 0, none⟩), .slice (some ⟨G, 0, none⟩) N N, .pointer (some ⟨w1.heap.size, 0, none⟩), .slice none 0 0] 104)
  have HPS : Hid (PS w N F w1.heap.size w2.heap.size g (.slice (some ⟨G, 0, none⟩) N N) (.slice M N mc) es ms s0 (fun z => z) (.slice none 0 0) (.slice none 0 0) [] [] (.slice none 0 0) [] (w2.alloc (.cells #[.pointer (some ⟨F, 0, none⟩), .slice (some ⟨G, 0, none⟩) N N, .pointer (some ⟨w1.heap.size, 0, none⟩), .slice none 0 0] 104))) := by
    have hz1 := HB1.out.size
    have hz2 := b2.size
    have hq3 := blk_lt q2.hdr
    have fin := H1.out.fw.in
    refine ⟨⟨(H1.out.later b2).later hb3, q2.later hb3, by omega, heap_alloc_new _ _, World.ownsRow_nil _ _ _ _, fun e => (by cases e), fun k hk q => ?_, fun k hk q => ?_, fun k hk q => ?_⟩, HT1.out, OW.nil, Outs.nil, fun _ => HG1.out, Below.trans HB1.out (Below.trans (Below.mono b2 hz1) (Below.mono hb3 (by omega)))⟩
    · have h1 := (fin k hk).2
      rcases q with q | q
      · omega
      · cases q
    · have h1 := (fin k hk).2
      rcases q with q | q
      · omega
      · cases q
    · rcases hk with hk | hk
      · rcases q with q | q
        · omega
        · cases q
      · cases hk
  have HPA := Lib.hid (ppaths_any hN hE HRI.out HMT.out HNR.out HM.out HPS.out HQ1.out)
  clear q2 b2 hb3 hqn
  go_wp2_with fail
  refine HPA.out.mono ?_
  rintro e w4 ⟨out, L, s, B, qv, ev, ps, xs, P, rfl, hps, hl1, hl2, hdn⟩
  have HPS4 := Lib.hid hps
  have HLK := Lib.hid (And.intro hl1 (And.intro hl2 hdn))
  obtain ⟨c0, c1, c2, c3⟩ := hps.pw.cells
  have h15 := hps.pw.fg.fw.h15
  clear hps hl1 hl2 hdn c1 c2 c3 HPA HPS
  go_wp2_with fail
  go_quiet (fail)
  rename_i nq
  have HD : Hid (RW w4 (w4.drewN nq)) := ((Drawn.refl w4).step nq).below _
  have HEND : Hid (OW w.heap.size (fun _ => False) out L (w4.drewN nq) ∧ Below w.heap.size w (w4.drewN nq)) := ⟨(HPS4.out.ow.mov (Mov.of HD.out)).weak, Below.trans HPS4.out.bel (Below.mono HD.out HPS4.out.bel.size)⟩
  clear c0 h15
  go_wp2_with fail
  go_ret2
  exact ⟨_, L, _, rfl, HLK.out.1, HLK.out.2.1, HEND.out.2, HEND.out.1, HPS4.out.outs.aug, HPS4.out.outs.apart, fun e => ⟨s.fo B, HPS4.out.pw.fg.fo, HLK.out.2.2 e⟩⟩
end
end

section
open Go.RowKit
section
variable {N : Nat} {near : Nat → List Int} {d0 : Nat → Bool}
/-- All pieces of the vertices below k, without some. -/
def Pc.all (near : Nat → List Int) (N : Nat) (d0 : Nat → Bool) : Nat → (Nat → Bool) × List (List Int)
  | 0 => (d0, [])
  | v + 1 => if (Pc.all near N d0 v).1 v = true then Pc.all near N d0 v else ((Pc.loop near (3 * N) ((⟨(Pc.all near N d0 v).1, [], []⟩ : Pc).come v)).dn, (Pc.all near N d0 v).2 ++ [srt (Pc.loop near (3 * N) ((⟨(Pc.all near N d0 v).1, [], []⟩ : Pc).come v)).now])
def inL (l : List Int) (j : Nat) : Bool := decide ((j : Int) ∈ l)
theorem OwnV.noblk {W : World} {base g : Nat} {v : Value} {vs : List Value} {cs : Array Value} {t : TypeId} (h : OwnV W base v vs) (hg : W.heap[g]? = some (.cells cs t (0, 0))) (ht : t ≠ 22) : v.ownBlock ≠ some g := fun e => by
  rcases h.2 with ⟨q, -⟩ | ⟨g', cap, cur, q, -, hg', -⟩
  · rw [q] at e; cases e
  · rw [q] at e
    have e2 : g' = g := Option.some.inj e
    rw [e2, hg] at hg'
    injection hg' with hg'
    injection hg' with _ hg'
    exact ht hg'
theorem inL_take {l : List Int} {k : Nat} (hk : k < l.length) {y : Nat} (hy : gi l k = (y : Int)) : inL (l.take (k + 1)) = upd (inL (l.take k)) y true := by
  funext j
  unfold inL upd
  rw [List.take_add_one, List.getElem?_eq_getElem hk, ← gi_at hk, hy]
  by_cases e : j = y
  · subst e; simp
  · have : ¬ (j : Int) = (y : Int) := by omega
    simp [e, this]
theorem Pc.all_le : ∀ v, (Pc.all near N d0 v).2.length ≤ v
  | 0 => Nat.le_refl _
  | v + 1 => by
    have := all_le v
    rw [Pc.all]
    split
    · omega
    · simp only [List.length_append, List.length_singleton]; omega

set_option maxHeartbeats 16000000 in
set_option maxRecDepth 100000 in
theorem pof_any {G b0 b1 : Nat} {vs : Nat → Value} {ov : Value} {ol : List Int} (w : World) (hN : N ≤ 4096) (hnear : ∀ u, u < N → (near u).length ≤ 1000000 ∧ ∀ x ∈ near u, ∃ z : Nat, z < N ∧ x = z) (hnr : Rows w G b0 N vs near) (ho : OwnI w b1 ov ol) (hol : ol.length ≤ 1000000 ∧ ∀ x ∈ ol, ∃ z : Nat, z < N ∧ x = z) :
    Calls Tryz.prog 212 #[.slice (some ⟨G, 0, none⟩) N N, ov] w fun e w' => ∃ out, e = .returned out ∧ OW w.heap.size (fun _ => False) out (Pc.all near N (inL ol) N).2 w' ∧ Below w.heap.size w w' := by
  have hmk := run_make_row' 68 4 (.bool false) 1 Tryz.underlying68 (by kernel_rfl) rfl .i64 .i64 N (by omega) (by omega) w
  have HNR := Lib.hid hnr
  have HNE := Lib.hid hnear
  have HOL := Lib.hid hol
  obtain ⟨A, cA, nA, rfl⟩ := OwnI.shape ho
  have hlA : cA = ol.length := ho.len rfl
  subst hlA
  have HO := Lib.hid ho
  have hr0 := RowF.made w N 4 (.bool false)
  have b1' := bel_alloc w (.cells (madeCells #[.bool false] N) 4)
  have z1 : (w.alloc (.cells (madeCells #[.bool false] N) 4)).heap.size = w.heap.size + 1 := by simp
  have n2 := heap_alloc_new (w.alloc (.cells (madeCells #[.bool false] N) 4)) (.cells #[.slice (some ⟨G, 0, none⟩) N N, .slice (some ⟨w.heap.size, 0, none⟩) N N, .slice none 0 0, .slice none 0 0] 319)
  have b2 := bel_alloc (w.alloc (.cells (madeCells #[.bool false] N) 4)) (.cells #[.slice (some ⟨G, 0, none⟩) N N, .slice (some ⟨w.heap.size, 0, none⟩) N N, .slice none 0 0, .slice none 0 0] 319)
  rw [z1] at n2
  have hP : PcW w.heap.size (w.heap.size + 1) w.heap.size N (.slice (some ⟨G, 0, none⟩) N N) ⟨inL [], [], []⟩ (.slice none 0 0) (.slice none 0 0) ((w.alloc (.cells (madeCells #[.bool false] N) 4)).alloc (.cells #[.slice (some ⟨G, 0, none⟩) N N, .slice (some ⟨w.heap.size, 0, none⟩) N N, .slice none 0 0, .slice none 0 0] 319)) :=
    ⟨⟨by omega, Nat.le_refl _⟩, n2, (hr0.later b2).congr fun j hj => by simp [inL], World.ownsRow_nil _ _ _ _, World.ownsRow_nil _ _ _ _, fun k e => (by cases e)⟩
  have HP := Lib.hid (And.intro hP (bel_trans b1' b2))
  clear hnr hnear hr0 b1' z1 n2 b2 hP hol ho
  go_enter Tryz.func212, Tryz.ntmps212
  go_wp2_with fail
  clear hmk
  generalize ((w.alloc (.cells (madeCells #[.bool false] N) 4)).alloc (.cells #[.slice (some ⟨G, 0, none⟩) N N, .slice (some ⟨w.heap.size, 0, none⟩) N N, .slice none 0 0, .slice none 0 0] 319)) = w1 at *
  go_loopw [18] (fun i wr => ∃ j : Nat, j ≤ ol.length ∧ i = .int .i64 j ∧ Hid (PcW w.heap.size (w.heap.size + 1) w.heap.size N (.slice (some ⟨G, 0, none⟩) N N) ⟨inL (ol.take j), [], []⟩ (.slice none 0 0) (.slice none 0 0) wr ∧ Below w.heap.size w wr)) (fun i _ => ol.length - (intOf i).toNat)
  case atStart => exact ⟨0, Nat.zero_le _, rfl, HP.out⟩
  case round =>
    clear HP
    obtain ⟨k, hk, rfl, hin⟩ := hrel
    by_cases hlt : k < ol.length
    · have HLT := Lib.hid hlt
      obtain ⟨y, hy, hye⟩ := HOL.out.2 (gi ol k) (by rw [gi_at hlt]; exact List.getElem_mem _)
      obtain ⟨g, c, hv, hgb, hgl, hgc⟩ := own_slice HO.out (by omega)
      simp only [Value.slice.injEq] at hv
      obtain ⟨rfl, -, -⟩ := hv
      have hck := (HO.out.later hin.out.2).cellAt hlt
      rw [hye] at hck
      have c1 : wr.cell? ⟨w.heap.size + 1, 1, none⟩ = some (.slice (some ⟨w.heap.size, 0, none⟩) N N) := (cell_blk hin.out.1.hdr 1).trans rfl
      have cD := hin.out.1.row.cell hy
      have fD := hin.out.1.row.froz y
      have hyi : (0 : Int) ≤ (y : Int) ∧ (y : Int) < (N : Int) := ⟨Int.natCast_nonneg y, Int.ofNat_lt.2 hy⟩
      have t1 : decide ((0 : Int) ≤ (y : Int)) = true := decide_eq_true hyi.1
      have t2 : decide ((y : Int) < (N : Int)) = true := decide_eq_true hyi.2
      have ew := wrap_one (show k ≤ 1000000 by have := HOL.out.1; omega)
      have hki : (0 : Int) ≤ (k : Int) ∧ (k : Int) < (ol.length : Int) := ⟨Int.natCast_nonneg k, Int.ofNat_lt.2 hlt⟩
      have HI : Hid (PcW w.heap.size (w.heap.size + 1) w.heap.size N (.slice (some ⟨G, 0, none⟩) N N) ⟨inL (ol.take (k + 1)), [], []⟩ (.slice none 0 0) (.slice none 0 0) (wr.setCell ⟨w.heap.size, y, none⟩ (.bool true)) ∧ Below w.heap.size w (wr.setCell ⟨w.heap.size, y, none⟩ (.bool true))) := by
        have hdne := hin.out.1.dne
        refine ⟨⟨hin.out.1.low, (Below.heap_setCell _ _ _ _ hdne.1).trans hin.out.1.hdr, ((hin.out.1.row.set y (.bool true)).congr fun j hj => ?_), World.ownsRow_nil _ _ _ _, World.ownsRow_nil _ _ _ _, fun k e => (by cases e)⟩, Below.setCell (p := ⟨w.heap.size, y, none⟩) hin.out.2 (Nat.le_refl _) _⟩
        rw [inL_take HLT.out hye]
        show _ = Value.bool (upd (inL (ol.take k)) y true j)
        unfold upd
        by_cases e : j = y
        · rw [if_pos e, if_pos e]
        · rw [if_neg e, if_neg e]
      generalize inL (ol.take k) y = db at *
      clear hlt hye hin hk hgl hgb
      go_wp2_with fail
      go_roundw
      case rel => exact ⟨k + 1, HLT.out, by go_num, HI.out⟩
      case measure => have := HLT.out; simp only [intOf, Int.toNat_natCast]; omega
    · have hle : ol.length ≤ k := by omega
      have HI : Hid (PcW w.heap.size (w.heap.size + 1) w.heap.size N (.slice (some ⟨G, 0, none⟩) N N) ⟨inL ol, [], []⟩ (.slice none 0 0) (.slice none 0 0) wr ∧ Below w.heap.size w wr) := by
        have h1 := hin.out
        rw [List.take_of_length_le hle] at h1
        exact h1
      clear hin hlt hk
      go_wp2_with fail
      clear hle
      generalize decide (k < ol.length) = dd
      go_loopw [8, 39] (fun v8 i wr => ∃ (v : Nat) (now : List Int) (nw rs : Value), v ≤ N ∧ i = .int .i64 v ∧ Hid (PcW w.heap.size (w.heap.size + 1) w.heap.size N (.slice (some ⟨G, 0, none⟩) N N) ⟨(Pc.all near N (inL ol) v).1, now, []⟩ nw rs wr ∧ OW w.heap.size (PcK (w.heap.size + 1) w.heap.size (.slice none 0 0) rs) v8 (Pc.all near N (inL ol) v).2 wr ∧ Below w.heap.size w wr)) (fun _ i _ => N - (intOf i).toNat)
      case atStart => exact ⟨0, [], _, _, Nat.zero_le _, rfl, HI.out.1, OW.nil, HI.out.2⟩
      case round =>
        clear HI HO HOL
        obtain ⟨v, now, nw, rs, hv, rfl, hin⟩ := hrel
        by_cases hlt : v < N
        · have HLT := Lib.hid hlt
          have c1 : wr.cell? ⟨w.heap.size + 1, 1, none⟩ = some (.slice (some ⟨w.heap.size, 0, none⟩) N N) := (cell_blk hin.out.1.hdr 1).trans rfl
          have cD := hin.out.1.row.cell hlt
          have hvi : (0 : Int) ≤ (v : Int) ∧ (v : Int) < (N : Int) := ⟨Int.natCast_nonneg v, Int.ofNat_lt.2 hlt⟩
          have ew := wrap_one (show v ≤ 1000000 by omega)
          have HIN := Lib.hid hin.out
          by_cases hd : (Pc.all near N (inL ol) v).1 v = true
          · have HNX : Hid (Pc.all near N (inL ol) (v + 1) = Pc.all near N (inL ol) v) := by unfold Hid; rw [Pc.all, if_pos hd]
            simp only [hd] at cD
            clear hin hlt hv hd
            go_wp2_with fail
            go_roundw
            case rel => exact ⟨v + 1, now, nw, rs, by have := HLT.out; omega, by go_num, by unfold Hid; rw [HNX.out]; exact HIN.out⟩
            case measure => have := HLT.out; simp only [intOf, Int.toNat_natCast]; omega
          · have hd' : (Pc.all near N (inL ol) v).1 v = false := by simpa using hd
            have HNX : Hid (Pc.all near N (inL ol) (v + 1) = ((Pc.loop near (3 * N) ((⟨(Pc.all near N (inL ol) v).1, [], []⟩ : Pc).come v)).dn, (Pc.all near N (inL ol) v).2 ++ [srt (Pc.loop near (3 * N) ((⟨(Pc.all near N (inL ol) v).1, [], []⟩ : Pc).come v)).now])) := by unfold Hid; rw [Pc.all, if_neg hd]
            simp only [hd'] at cD
            have HPC := Lib.hid (piece_any (s := ⟨(Pc.all near N (inL ol) v).1, now, []⟩) (v := v) hN HNE.out HNR.out wr HIN.out.2.2 rfl HIN.out.1 rfl hlt hd')
            clear hin hlt hv hd hd'
            go_wp2_with fail
            refine HPC.out.mono ?_
            rintro e w2 ⟨nw2, rs2, g, n, c, rfl, rfl, hp2, hr2, -, hg2, hm2⟩
            clear HPC
            generalize hS : Pc.loop near (3 * N) ((⟨(Pc.all near N (inL ol) v).1, [], []⟩ : Pc).come v) = s1 at *
            rw [hr2] at hp2
            have ow2 := HIN.out.2.1.mov hm2
            obtain ⟨vs2, V1, V2, V3, V4⟩ := ow2.ex
            have hb2 : Below w.heap.size w w2 := Below.trans HIN.out.2.2 (hm2.below (fun k hk => (HIN.out.1.in k (by
              rcases hk with q | q | q | q
              · exact .inl q
              · exact .inr (.inl q)
              · cases q
              · exact .inr (.inr (.inr q)))).1) HIN.out.2.2.size)
            obtain ⟨A8, c8, rfl⟩ := V1.shape
            have b3 := bel_alloc w2 (.cells #[.slice (some ⟨g, 0, none⟩) n c] 22)
            have n3 := heap_alloc_new w2 (.cells #[.slice (some ⟨g, 0, none⟩) n c] 22)
            have HR3 : Hid ((w2.alloc (.cells #[.slice (some ⟨g, 0, none⟩) n c] 22)).cell? ⟨w2.heap.size, 0, none⟩ = some (.slice (some ⟨g, 0, none⟩) n c)) := (cell_blk n3 0).trans rfl
            have V1' : OwnV (w2.alloc (.cells #[.slice (some ⟨g, 0, none⟩) n c] 22)) w.heap.size (.slice A8 vs2.length c8) vs2 := V1.same fun k e => b3.block k (World.ownsRow.lt V1 k e).2
            have HV := Lib.hid V1'
            have HZ : Hid (w.heap.size ≤ (w2.alloc (.cells #[.slice (some ⟨g, 0, none⟩) n c] 22)).heap.size ∧ vs2.length + 1 ≤ 1000000000) := by
              have h1 := hb2.size
              have h2 := b3.size
              have h3 := Pc.all_le (near := near) (N := N) (d0 := inL ol) v
              have := HLT.out
              exact ⟨by omega, by omega⟩
            have H2 := Lib.hid (And.intro hp2 (And.intro V1 (And.intro V2 (And.intro V3 (And.intro V4 (And.intro hb2 b3))))))
            clear hp2 V1 V2 V3 V4 hb2 b3 n3 V1' ow2 hm2 hg2 hr2 cD c1
            go_wp2_with (first
              | (at_builtin; refine list_appV w.heap.size rfl _ _ rfl (.slice A8 vs2.length c8) vs2 rfl HV.out HZ.out.1 w2.heap.size 0 1 (.slice (some ⟨g, 0, none⟩) n c) rfl HR3.out rfl HZ.out.2 ?_; intro v4 w4 o4 g4 a4 n4)
              | fail)
            have HQ : Hid (PcW w.heap.size (w.heap.size + 1) w.heap.size N (.slice (some ⟨G, 0, none⟩) N N) ⟨s1.dn, srt s1.now, []⟩ (.slice (some ⟨g, 0, none⟩) n c) rs2 w4 ∧ OW w.heap.size (PcK (w.heap.size + 1) w.heap.size (.slice none 0 0) rs2) v4 ((Pc.all near N (inL ol) v).2 ++ [srt s1.now]) w4 ∧ Below w.heap.size w w4) := by
              obtain ⟨hp2, V1, V2, V3, V4, hb2, b3⟩ := H2.out
              have hp3 := hp2.later b3
              have hin := hp2.in
              have hof : ∀ k, PcK (w.heap.size + 1) w.heap.size (.slice (some ⟨g, 0, none⟩) n c) rs2 k → (Value.slice A8 vs2.length c8).ownBlock ≠ some k := fun k hk e => V3 k e hk
              have hle : ∀ k, PcK (w.heap.size + 1) w.heap.size (.slice none 0 0) rs2 k → PcK (w.heap.size + 1) w.heap.size (.slice (some ⟨g, 0, none⟩) n c) rs2 k := fun k hk => by
                rcases hk with q | q | q | q
                · exact .inl q
                · exact .inr (.inl q)
                · cases q
                · exact .inr (.inr (.inr q))
              refine ⟨⟨hp3.low, (g4.block _ (blk_lt hp3.hdr) fun e => hof _ (.inl rfl) e.symm).trans hp3.hdr, hp3.row.grown g4 (fun e => hof _ (.inr (.inl rfl)) e.symm), own_grown hp3.onw g4 (fun k hk e => hof k (.inr (.inr (.inl hk))) e.symm), own_grown hp3.ors g4 (fun k hk e => hof k (.inr (.inr (.inr hk))) e.symm), hp3.ap⟩, ?_, ?_⟩
              · refine OW.add (W := w2.alloc (.cells #[.slice (some ⟨g, 0, none⟩) n c] 22)) HV.out V2 (fun k e hk => V3 k e (hle k hk)) (fun j hj hl => ?_) rfl hp3.onw ?_ (hof g (.inr (.inr (.inl rfl)))) (fun k hk => by have := (hin k (hle k hk)).2; have := b3.size; omega) o4 g4 a4
                · obtain ⟨GA', CA', n', e, o, g', q⟩ := V4 j hj hl
                  exact ⟨GA', CA', n', e, o.same fun q e => b3.block q (row_lt o q e), fun hk => g' (hle _ hk), q⟩
                · intro hk
                  have hdne := hp2.dne
                  rcases hk with q | q | q | q
                  · exact hdne.2.1 (q ▸ rfl)
                  · exact hdne.2.2.1 (q ▸ rfl)
                  · cases q
                  · exact hp2.ap g rfl q
              · refine ⟨g4.os.trans (b3.os.trans hb2.os), g4.tape.trans (b3.tape.trans hb2.tape), g4.output.trans (b3.output.trans hb2.output), Nat.le_trans hb2.size (Nat.le_trans b3.size g4.size), fun q hq => ?_⟩
                have hbs := hb2.size
                have hb3s := b3.size
                rw [g4.block q (by omega) (fun e => by have := (World.ownsRow.lt V1 q e.symm).1; omega), b3.block q (by omega)]
                exact hb2.block q hq
            clear o4 g4 a4 n4 H2 HV HZ HR3 HIN
            go_wp2_with fail
            go_roundw
            case rel =>
              refine ⟨v + 1, srt s1.now, .slice (some ⟨g, 0, none⟩) n c, rs2, by have := HLT.out; omega, by go_num, ?_⟩
              unfold Hid
              rw [HNX.out]
              exact HQ.out
            case measure => have := HLT.out; simp only [intOf, Int.toNat_natCast]; omega
        · have hve : v = N := by omega
          subst hve
          have HIN := Lib.hid hin.out
          clear hin hv hlt
          go_wp2_with fail
          go_ret
          refine ⟨_, rfl, ?_, HIN.out.2.2⟩
          obtain ⟨vs2, V1, V2, V3, V4⟩ := HIN.out.2.1.ex
          exact ⟨vs2, V1, V2, fun _ _ h => h, fun j hj hl => by obtain ⟨a, b, c, h1, h2, h3, h4⟩ := V4 j hj hl; exact ⟨a, b, c, h1, h2, fun h => h, h4⟩⟩
end
end

section
open Go.RowKit
section
variable {N : Nat} {near : Nat → List Int} {d0 : Nat → Bool} {s : Pc}
theorem inL_nat {l : List Int} {j : Nat} : inL l j = true ↔ (j : Int) ∈ l := by simp [inL]
theorem inL_app (a b : List Int) (j : Nat) : inL (a ++ b) j = (inL a j || inL b j) := by
  unfold inL
  by_cases h1 : (j : Int) ∈ a <;> by_cases h2 : (j : Int) ∈ b <;> simp [h1, h2]
/-- One more, if it was not come to. -/
theorem Pc.come_spec (s : Pc) (z : Nat) : ∃ nw : List Int, (s.come z).now = s.now ++ nw ∧ (s.come z).rest = s.rest ++ nw ∧ (∀ j, (s.come z).dn j = (s.dn j || inL nw j)) ∧ (s.come z).dn z = true ∧ (∀ x ∈ nw, x = (z : Int) ∧ s.dn z = false) ∧ nw.Nodup := by
  by_cases hd : s.dn z = true
  · have e : s.come z = s := by unfold Pc.come; rw [if_pos hd]
    rw [e]
    exact ⟨[], by simp, by simp, fun j => by simp [inL], hd, fun x hx => by simp at hx, List.nodup_nil⟩
  · have hd' : s.dn z = false := by simpa using hd
    have e : s.come z = ⟨upd s.dn z true, s.now ++ [(z : Int)], s.rest ++ [(z : Int)]⟩ := by unfold Pc.come; rw [if_neg hd]
    rw [e]
    refine ⟨[(z : Int)], rfl, rfl, fun j => ?_, by simp [upd], fun x hx => ⟨by simpa using hx, hd'⟩, by simp⟩
    unfold upd inL
    by_cases q : j = z
    · subst q; simp
    · have : ¬ (j : Int) = (z : Int) := by omega
      simp [q, this]
theorem Pc.comes_spec : ∀ (l : List Int) (s : Pc), (∀ x ∈ l, ∃ z : Nat, x = (z : Int)) → ∃ nw : List Int, (s.comes l).now = s.now ++ nw ∧ (s.comes l).rest = s.rest ++ nw ∧ (∀ j, (s.comes l).dn j = (s.dn j || inL nw j)) ∧ (∀ x ∈ l, (s.comes l).dn x.toNat = true) ∧ (∀ x ∈ nw, x ∈ l ∧ s.dn x.toNat = false) ∧ nw.Nodup
  | [], s, _ => ⟨[], by simp [Pc.comes], by simp [Pc.comes], fun j => by simp [Pc.comes, inL], fun x hx => by simp at hx, fun x hx => by simp at hx, List.nodup_nil⟩
  | x :: l, s, h => by
    obtain ⟨z, rfl⟩ := h x (by simp)
    obtain ⟨n1, a1, a2, a3, a4, a5, a6⟩ := come_spec s z
    obtain ⟨n2, b1, b2, b3, b4, b5, b6⟩ := comes_spec l (s.come z) (fun y hy => h y (List.mem_cons_of_mem _ hy))
    have e : s.comes ((z : Int) :: l) = (s.come z).comes l := by unfold Pc.comes; rfl
    rw [e]
    refine ⟨n1 ++ n2, by rw [b1, a1, List.append_assoc], by rw [b2, a2, List.append_assoc], fun j => by rw [b3, a3, inL_app, Bool.or_assoc], fun x hx => ?_, fun x hx => ?_, ?_⟩
    · rcases List.mem_cons.1 hx with rfl | hx
      · rw [Int.toNat_natCast, b3, a4]; rfl
      · exact b4 x hx
    · rcases List.mem_append.1 hx with hx | hx
      · obtain ⟨rfl, q⟩ := a5 x hx
        exact ⟨by simp, q⟩
      · obtain ⟨q1, q2⟩ := b5 x hx
        rw [a3] at q2
        exact ⟨List.mem_cons_of_mem _ q1, by simp at q2; exact q2.1⟩
    · rw [List.nodup_append]
      refine ⟨a6, b6, fun x hx y hy q => ?_⟩
      subst q
      obtain ⟨rfl, -⟩ := a5 x hx
      have := (b5 _ hy).2
      rw [Int.toNat_natCast, a4] at this
      cases this

/-- What holds while a piece is gone through: it began at v, when d0 was come to. -/
structure PcI (near : Nat → List Int) (d0 : Nat → Bool) (N v : Nat) (s : Pc) : Prop where
  dn : ∀ j, s.dn j = (d0 j || inL s.now j)
  nod : s.now.Nodup
  lt : ∀ x ∈ s.now, ∃ z : Nat, z < N ∧ x = z ∧ d0 z = false
  sub : ∀ x ∈ s.rest, x ∈ s.now
  clo : ∀ x ∈ s.now, x ∉ s.rest → ∀ y ∈ near x.toNat, s.dn y.toNat = true
  con : ∀ Q : Nat → Prop, Q v → (∀ u w : Nat, Q u → (w : Int) ∈ near u → d0 w = false → Q w) → ∀ x ∈ s.now, Q x.toNat
  v : (v : Int) ∈ s.now
theorem PcI.start {v : Nat} (hv : v < N) (hd : d0 v = false) : PcI near d0 N v ((⟨d0, [], []⟩ : Pc).come v) := by
  have e : (⟨d0, [], []⟩ : Pc).come v = ⟨upd d0 v true, [(v : Int)], [(v : Int)]⟩ := by unfold Pc.come; rw [if_neg (show ¬ d0 v = true by rw [hd]; decide)]; rfl
  rw [e]
  refine ⟨fun j => ?_, by simp, fun x hx => ⟨v, hv, by simpa using hx, hd⟩, fun x hx => hx, fun x hx hn => absurd hx hn, fun Q q _ x hx => ?_, by simp⟩
  · unfold upd inL
    by_cases q : j = v
    · subst q; simp
    · have : ¬ (j : Int) = (v : Int) := by omega
      simp [q, this]
  · have : x = v := by simpa using hx
    rw [this, Int.toNat_natCast]
    exact q
theorem PcI.step {v : Nat} (hnear : ∀ u, u < N → ∀ x ∈ near u, ∃ z : Nat, z < N ∧ x = z) (h : PcI near d0 N v s) (hr : s.rest ≠ []) : PcI near d0 N v (s.step near) := by
  have hl : 0 < s.rest.length := List.length_pos_iff.2 hr
  have hg : gi s.rest (s.rest.length - 1) ∈ s.rest := by rw [gi_at (by omega)]; exact List.getElem_mem _
  obtain ⟨u, hu, hue, hud⟩ := h.lt _ (h.sub _ hg)
  have e : s.step near = ({ s with rest := s.rest.dropLast } : Pc).comes (near u) := by unfold Pc.step; rw [hue, Int.toNat_natCast]
  rw [e]
  obtain ⟨n1, b1, b2, b3, b4, b5, b6⟩ := Pc.comes_spec (near u) ({ s with rest := s.rest.dropLast } : Pc) (fun x hx => by obtain ⟨z, -, q⟩ := hnear u hu x hx; exact ⟨z, q⟩)
  have hlast : ∀ x ∈ s.rest, x ∈ s.rest.dropLast ∨ x = u := fun x hx => by
    have e2 := List.dropLast_concat_getLast hr
    rw [← e2] at hx
    rcases List.mem_append.1 hx with q | q
    · exact .inl q
    · right
      rw [List.getLast_eq_getElem, ← gi_at, hue] at q
      simpa using q
  refine ⟨fun j => ?_, ?_, fun x hx => ?_, fun x hx => ?_, fun x hx hn y hy => ?_, fun Q q1 q2 x hx => ?_, ?_⟩
  · rw [b3, b1, inL_app, ← Bool.or_assoc, ← h.dn]
  · rw [b1, List.nodup_append]
    refine ⟨h.nod, b6, fun x hx y hy q => ?_⟩
    subst q
    obtain ⟨z, -, rfl, -⟩ := h.lt x hx
    have := (b5 _ hy).2
    rw [Int.toNat_natCast] at this
    have h2 := h.dn z
    rw [show s.dn z = false from this, inL_nat.2 hx] at h2
    simp at h2
  · rw [b1] at hx
    rcases List.mem_append.1 hx with hx | hx
    · exact h.lt x hx
    · obtain ⟨q1, q2⟩ := b5 x hx
      obtain ⟨z, hz, rfl⟩ := hnear u hu x q1
      rw [Int.toNat_natCast] at q2
      have h2 := h.dn z
      rw [show s.dn z = false from q2] at h2
      exact ⟨z, hz, rfl, by simp at h2; exact h2.1⟩
  · rw [b2] at hx
    rw [b1]
    rcases List.mem_append.1 hx with hx | hx
    · exact List.mem_append.2 (.inl (h.sub x ((List.dropLast_sublist _).subset hx)))
    · exact List.mem_append.2 (.inr hx)
  · rw [b1] at hx
    rw [b2] at hn
    rcases List.mem_append.1 hx with hx | hx
    · by_cases q : x ∈ s.rest
      · rcases hlast x q with q | q
        · exact absurd (List.mem_append.2 (.inl q)) hn
        · rw [q, Int.toNat_natCast] at hy
          exact b4 y hy
      · rw [b3]
        rw [show ({ s with rest := s.rest.dropLast } : Pc).dn = s.dn from rfl, h.clo x hx q y hy]
        rfl
    · exact absurd (List.mem_append.2 (.inr hx)) hn
  · rw [b1] at hx
    rcases List.mem_append.1 hx with hx | hx
    · exact h.con Q q1 q2 x hx
    · obtain ⟨a1, a2⟩ := b5 x hx
      obtain ⟨z, hz, rfl⟩ := hnear u hu x a1
      rw [Int.toNat_natCast] at a2 ⊢
      have hQ := h.con Q q1 q2 _ (h.sub _ hg)
      rw [hue, Int.toNat_natCast] at hQ
      have h2 := h.dn z
      rw [show s.dn z = false from a2] at h2
      exact q2 u z hQ a1 (by simp at h2; exact h2.1)
  · rw [b1]
    exact List.mem_append.2 (.inl h.v)
theorem PcI.loop {v : Nat} (hnear : ∀ u, u < N → ∀ x ∈ near u, ∃ z : Nat, z < N ∧ x = z) : ∀ (k : Nat) {s : Pc}, PcI near d0 N v s → PcOk N s → s.mu N ≤ k → PcI near d0 N v (Pc.loop near k s) ∧ (Pc.loop near k s).rest = []
  | 0, s, h, ok, hk => by
    refine ⟨h, ?_⟩
    unfold Pc.mu at hk
    exact List.length_eq_zero_iff.1 (show s.rest.length = 0 by omega)
  | k + 1, s, h, ok, hk => by
    by_cases hr : s.rest = []
    · rw [Pc.loop, if_pos hr]
      exact ⟨h, hr⟩
    · rw [Pc.loop, if_neg hr]
      have hl : 0 < s.rest.length := List.length_pos_iff.2 hr
      have hg : gi s.rest (s.rest.length - 1) ∈ s.rest := by rw [gi_at (by omega)]; exact List.getElem_mem _
      obtain ⟨u, hu, hue⟩ := ok.rest _ hg
      have e : s.step near = ({ s with rest := s.rest.dropLast } : Pc).comes (near u) := by unfold Pc.step; rw [hue, Int.toNat_natCast]
      obtain ⟨o1, o2⟩ := Pc.comes_ok (N := N) (near u) (hnear u hu) ok.cut
      rw [← e] at o1 o2
      refine PcI.loop hnear k (h.step hnear hr) o1 ?_
      have : ({ s with rest := s.rest.dropLast } : Pc).mu N + 1 ≤ s.mu N := by
        show 2 * s.und N + s.rest.dropLast.length + 1 ≤ 2 * s.und N + s.rest.length
        rw [List.length_dropLast]; omega
      omega

/-- The pieces that were gone through, when all below v have been come to. -/
structure PcA (near : Nat → List Int) (d0 : Nat → Bool) (N v : Nat) (dd : Nat → Bool) (L : List (List Int)) : Prop where
  dn : ∀ j, dd j = true ↔ d0 j = true ∨ ∃ p ∈ L, (j : Int) ∈ p
  all : ∀ j, j < v → dd j = true
  lt : ∀ p ∈ L, p.Nodup ∧ ∀ x ∈ p, ∃ z : Nat, z < N ∧ x = z ∧ d0 z = false
  clo : ∀ p ∈ L, ∀ x ∈ p, ∀ y ∈ near x.toNat, d0 y.toNat = true ∨ y ∈ p
  con : ∀ p ∈ L, ∃ r : Nat, (r : Int) ∈ p ∧ ∀ Q : Nat → Prop, Q r → (∀ u w : Nat, Q u → (w : Int) ∈ near u → d0 w = false → Q w) → ∀ x ∈ p, Q x.toNat
  dis : L.Pairwise fun p q => ∀ x ∈ p, x ∉ q
theorem mem_srt {l : List Int} {x : Int} : x ∈ srt l ↔ x ∈ l := (List.mergeSort_perm l _).mem_iff
theorem PcA.step {v : Nat} {dn : Nat → Bool} {L : List (List Int)} (hsy : ∀ u w : Nat, u < N → (w : Int) ∈ near u → (u : Int) ∈ near w) (hnear : ∀ u, u < N → ∀ x ∈ near u, ∃ z : Nat, z < N ∧ x = z) (h : PcA near d0 N v dn L) (hv : v < N) (hd : dn v = false) {s1 : Pc} (hi : PcI near dn N v s1) (hr : s1.rest = []) : PcA near d0 N (v + 1) s1.dn (L ++ [srt s1.now]) := by
  have hlow : ∀ j, dn j = false → d0 j = false := fun j e => by
    cases q : d0 j
    · rfl
    · have := (h.dn j).2 (.inl q)
      rw [e] at this
      cases this
  refine ⟨fun j => ?_, fun j hj => ?_, fun p hp => ?_, fun p hp x hx y hy => ?_, fun p hp => ?_, ?_⟩
  · rw [hi.dn j, Bool.or_eq_true, h.dn j, inL_nat]
    constructor
    · rintro ((q | ⟨p, hp, q⟩) | q)
      · exact .inl q
      · exact .inr ⟨p, by simp [hp], q⟩
      · exact .inr ⟨srt s1.now, by simp, mem_srt.2 q⟩
    · rintro (q | ⟨p, hp, q⟩)
      · exact .inl (.inl q)
      · rcases List.mem_append.1 hp with hp | hp
        · exact .inl (.inr ⟨p, hp, q⟩)
        · have e : p = srt s1.now := by simpa using hp
          rw [e] at q
          exact .inr (mem_srt.1 q)
  · rw [hi.dn j, Bool.or_eq_true]
    by_cases q : j = v
    · subst q
      exact .inr (inL_nat.2 hi.v)
    · exact .inl (h.all j (by omega))
  · rcases List.mem_append.1 hp with hp | hp
    · exact h.lt p hp
    · have e : p = srt s1.now := by simpa using hp
      subst e
      refine ⟨(List.mergeSort_perm s1.now _).nodup_iff.2 hi.nod, fun x hx => ?_⟩
      obtain ⟨z, h1, h2, h3⟩ := hi.lt x (mem_srt.1 hx)
      exact ⟨z, h1, h2, hlow z h3⟩
  · rcases List.mem_append.1 hp with hp | hp
    · exact h.clo p hp x hx y hy
    · have e : p = srt s1.now := by simpa using hp
      subst e
      have hx' := mem_srt.1 hx
      obtain ⟨z, hz, rfl, hzd⟩ := hi.lt x hx'
      rw [Int.toNat_natCast] at hy
      obtain ⟨y', hy', rfl⟩ := hnear z hz y hy
      rw [Int.toNat_natCast]
      have hc := hi.clo _ hx' (by rw [hr]; simp) (y' : Int) (by rw [Int.toNat_natCast]; exact hy)
      rw [Int.toNat_natCast, hi.dn, Bool.or_eq_true] at hc
      rcases hc with hc | hc
      · rcases (h.dn y').1 hc with q | ⟨p', hp', q⟩
        · exact .inl q
        · exfalso
          have hb := h.clo p' hp' _ q (z : Int) (by rw [Int.toNat_natCast]; exact hsy z y' hz hy)
          rw [Int.toNat_natCast] at hb
          have : dn z = true := (h.dn z).2 (by
            rcases hb with hb | hb
            · exact .inl hb
            · exact .inr ⟨p', hp', hb⟩)
          rw [hzd] at this
          cases this
      · exact .inr (mem_srt.2 (inL_nat.1 hc))
  · rcases List.mem_append.1 hp with hp | hp
    · exact h.con p hp
    · have e : p = srt s1.now := by simpa using hp
      subst e
      exact ⟨v, mem_srt.2 hi.v, fun Q q1 q2 x hx => hi.con Q q1 (fun u w a b c => q2 u w a b (hlow w c)) x (mem_srt.1 hx)⟩
  · rw [List.pairwise_append]
    refine ⟨h.dis, by simp, fun p hp q hq x hx hx' => ?_⟩
    have e : q = srt s1.now := by simpa using hq
    subst e
    obtain ⟨z, hz, rfl, hzd⟩ := hi.lt x (mem_srt.1 hx')
    have : dn z = true := (h.dn z).2 (.inr ⟨p, hp, hx⟩)
    rw [hzd] at this
    cases this
theorem pcAll (hsy : ∀ u w : Nat, u < N → (w : Int) ∈ near u → (u : Int) ∈ near w) (hnear : ∀ u, u < N → ∀ x ∈ near u, ∃ z : Nat, z < N ∧ x = z) : ∀ v, v ≤ N → PcA near d0 N v (Pc.all near N d0 v).1 (Pc.all near N d0 v).2
  | 0, _ => ⟨fun j => by simp [Pc.all], fun j hj => absurd hj (Nat.not_lt_zero _), fun p hp => by simp [Pc.all] at hp, fun p hp => by simp [Pc.all] at hp, fun p hp => by simp [Pc.all] at hp, by simp [Pc.all]⟩
  | v + 1, hv => by
    have ih := pcAll hsy hnear v (by omega)
    rw [Pc.all]
    by_cases hd : (Pc.all near N d0 v).1 v = true
    · rw [if_pos hd]
      refine ⟨ih.dn, fun j hj => ?_, ih.lt, ih.clo, ih.con, ih.dis⟩
      by_cases q : j = v
      · rw [q]; exact hd
      · exact ih.all j (by omega)
    · rw [if_neg hd]
      have hd' : (Pc.all near N d0 v).1 v = false := by simpa using hd
      have ok0 : PcOk N (⟨(Pc.all near N d0 v).1, [], []⟩ : Pc) := ⟨fun x hx => (by cases hx), by have : (⟨(Pc.all near N d0 v).1, [], []⟩ : Pc).und N ≤ N := sel_length _ _; show 2 * Pc.und N _ + 0 ≤ 2 * N; omega, by have : (⟨(Pc.all near N d0 v).1, [], []⟩ : Pc).und N ≤ N := sel_length _ _; show 0 + Pc.und N _ ≤ N; omega⟩
      have ok1 := ok0.come (v := v) (by omega)
      have hmu : ((⟨(Pc.all near N d0 v).1, [], []⟩ : Pc).come v).mu N ≤ 3 * N := by
        have h2 := Pc.come_mu (s := (⟨(Pc.all near N d0 v).1, [], []⟩ : Pc)) (v := v) (N := N) (by omega)
        have h3 := ok0.r
        have h4 : (⟨(Pc.all near N d0 v).1, [], []⟩ : Pc).mu N = 2 * (⟨(Pc.all near N d0 v).1, [], []⟩ : Pc).und N + 0 := rfl
        have : (⟨(Pc.all near N d0 v).1, [], []⟩ : Pc).und N ≤ N := sel_length _ _
        omega
      obtain ⟨hi, hr⟩ := PcI.loop hnear (3 * N) (PcI.start (near := near) (N := N) (by omega) hd') ok1 hmu
      exact ih.step hsy hnear (by omega) hd' hi hr
end
end

end Go.Proofs.YtbnipgajhpbolaaGreatDoor
