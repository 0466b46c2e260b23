/- The walks of play.Put and of the statement SubEdges. -/
import Derived.Test.YtnldfjoadmehcaaEdgesPure
set_option linter.unusedVariables false
set_option linter.unusedSimpArgs false
namespace Go.Proofs.Ytnldfjoadmehcaa
open Go.RowKit

theorem RW.grown {w0 W W1 : World} {row : Option Nat} (r : RW w0 W) (g : W.grownBy W1 row) (hr : ∀ k, row = some k → w0.heap.size ≤ k) : RW w0 W1 := Below.grown r g (Below.size r) hr
theorem RW.three {w0 W : World} {a1 a2 a3 : Addr} {v1 v2 v3 : Value} (h : w0.cell? a1 = some v1 ∧ w0.cell? a2 = some v2 ∧ w0.cell? a3 = some v3) (r : RW w0 W) : W.cell? a1 = some v1 ∧ W.cell? a2 = some v2 ∧ W.cell? a3 = some v3 ∧ RW w0 W := ⟨cell_later r h.1, cell_later r h.2.1, cell_later r h.2.2, r⟩
theorem own_alloc_d {w : World} {base e size n : Nat} {v : Value} {xs : List Value} (h : w.ownsRow base e size v n xs) (o : Obj) : (w.alloc o).drew.ownsRow base e size v n xs := row_below (own_alloc h o) ((Drawn.refl _).drew.below _)

set_option maxHeartbeats 1000000 in
set_option maxRecDepth 100000 in
theorem pput_any {A : Option Addr} {n c : Nat} {es : List Ed} (N e1 e2 : Int) (w : World) (h : ReadE w A n es) (hc : n ≤ c) :
    Calls Try.prog 28 #[.agg #[.int .i64 N, .slice A n c], .agg #[.int .i64 e1, .int .i64 e2]] w fun e w' =>
      ∃ v, e = .returned (.tuple #[.agg #[.int .i64 (addP N es e1 e2).1, v], .int .i64 (addP N es e1 e2).2.2]) ∧ OwnE w' (w.heap.size + 3) v (addP N es e1 e2).2.1 ∧ Below w.heap.size w w' := by
  have hb1 := bel_trans (bel_trans (bel_alloc w (gcells N A n c)) (bel_alloc _ (ecell2 e1 e2))) (bel_alloc _ (gcells 0 none 0 0))
  have ha := add_any (c := c) N e1 e2 _ (h.below hb1) hc
  have hblk : (((w.alloc (gcells N A n c)).alloc (ecell2 e1 e2)).alloc (gcells 0 none 0 0)).heap[w.heap.size + 2]? = some (gcells 0 none 0 0) := by
    have := heap_alloc_new ((w.alloc (gcells N A n c)).alloc (ecell2 e1 e2)) (gcells 0 none 0 0)
    simpa using this
  have HBLK := Lib.hid hblk
  have HB1 := Lib.hid hb1
  have HSZ : Hid ((((w.alloc (gcells N A n c)).alloc (ecell2 e1 e2)).alloc (gcells 0 none 0 0)).heap.size = w.heap.size + 3) := by unfold Hid; simp
  clear hb1 hblk
  generalize hP : addP N es e1 e2 = P at *
  obtain ⟨P1, P2, P3⟩ := P
  simp only [] at ha ⊢
  clear hP
  go_enter Try.func28, Try.ntmps28
  go_wp2_with fail
  refine ha.mono ?_
  rintro e w1 ⟨g, rfl, v, rfl, own, hb⟩
  obtain ⟨A2, n2, c2, rfl⟩ := OwnE.shape own
  have hbk := blk_later HBLK.out hb
  obtain ⟨x0, x1, x2, x3⟩ := blk_cells hbk
  have HEND : Hid (((w1.setCell ⟨w.heap.size + 2, 0, none⟩ (.int .i64 P1)).setCell ⟨w.heap.size + 2, 1, none⟩ (.slice A2 n2 c2)).heap[w.heap.size + 2]? = some (.cells #[.int .i64 P1, .slice A2 n2 c2] 26 (0, 0))) := Go.Proofs.YtnldfjoadmehcaaW.PrintWords.blk_put (cs := #[.int .i64 P1, .slice none 0 0]) (Go.Proofs.YtnldfjoadmehcaaW.PrintWords.blk_put (cs := #[.int .i64 0, .slice none 0 0]) hbk 0 _ rfl) 1 _ rfl
  have HBEL : Hid (Below w.heap.size w ((w1.setCell ⟨w.heap.size + 2, 0, none⟩ (.int .i64 P1)).setCell ⟨w.heap.size + 2, 1, none⟩ (.slice A2 n2 c2))) := Below.setCell (Below.setCell (bel_trans HB1.out hb) (by simp) _) (by simp) _
  have HOWN : Hid (OwnE ((w1.setCell ⟨w.heap.size + 2, 0, none⟩ (.int .i64 P1)).setCell ⟨w.heap.size + 2, 1, none⟩ (.slice A2 n2 c2)) (w.heap.size + 3) (.slice A2 n2 c2) P2) := own_set2 (row_weaken own (by rw [HSZ.out]; omega)) (by omega)
  clear hb hbk own
  go_wp2_with fail
  (try simp only [Exit.inBlock, Exit.then])
  refine bodyPost_ret (Go.Proofs.YtnldfjoadmehcaaW.PrintWords.results_ct rfl _ _ (w.heap.size + 2) 26 #[.int .i64 P1, .slice A2 n2 c2] (0, 0) _ rfl HEND.out Try.underlying26 rfl (by kernel_rfl)) rfl ?_
  exact ⟨.slice A2 n2 c2, rfl, HOWN.out, HBEL.out⟩

/-- What Less leaves, where it leaves something. -/
theorem less_ok {A B : Option Addr} {n c m d : Nat} {es l hs : List Ed} {N N2 k : Int} {w : World} (h : ReadE w A n es) (hl : ReadE w B m l) (hk : lessP N es l = (N2, hs, k)) :
    Calls Try.prog 27 #[.agg #[.int .i64 N, .slice A n c], .slice B m d] w fun e w' => ∃ A3 c3, hs.length ≤ c3 ∧ e = .returned (.tuple #[.agg #[.int .i64 N2, .slice A3 hs.length c3], .int .i64 k]) ∧ OwnE w' (w.heap.size + 2) (.slice A3 hs.length c3) hs ∧ Below w.heap.size w w' :=
  (less_any N w h hl).mono fun e w' hq => by
    rw [hk] at hq
    obtain ⟨v, rfl, h1, h2⟩ := hq
    obtain ⟨A3, c3, rfl, hc, -, -⟩ := OwnE.read h1
    exact ⟨_, _, hc, rfl, h1, h2⟩

/-- The graph that grows back lies in the first block behind w5. -/
def BR (w5 : World) (M : Int) (A : Option Addr) (c : Nat) (bs : List Ed) (W : World) : Prop := bs.length ≤ c ∧ W.heap[w5.heap.size]? = some (gcells M A bs.length c) ∧ ReadE W A bs.length bs ∧ RW w5 W
/-- The next one, in a box of its own. -/
def NB (w0 : World) (M : Int) (bs : List Ed) (s : Value) (W : World) : Prop :=
  ∃ H A c, s = .pointer (some ⟨H, 0, none⟩) ∧ bs.length ≤ c ∧ W.cell? ⟨H, 0, none⟩ = some (.int .i64 M) ∧ W.cell? ⟨H, 1, none⟩ = some (.slice A bs.length c) ∧ OwnE W w0.heap.size (.slice A bs.length c) bs ∧ RW w0 W
theorem nb_alloc {w0 W : World} {base : Nat} {M : Int} {bs : List Ed} {A : Option Addr} {c : Nat} (hE : OwnE W base (.slice A bs.length c) bs) (hc : bs.length ≤ c) (hb : w0.heap.size ≤ base) (hr : RW w0 W) :
    NB w0 M bs (.pointer (some ⟨W.heap.size, 0, none⟩)) (W.alloc (gcells M A bs.length c)) :=
  ⟨_, _, _, rfl, hc, (boxg W M A bs.length c).1, (boxg W M A bs.length c).2, own_alloc (row_weaken hE hb) _, hr.alloc _⟩
theorem nb_set {w0 W : World} {base : Nat} {M : Int} {bs : List Ed} {A : Option Addr} {c : Nat} (hE : OwnE W base (.slice A bs.length c) bs) (hc : bs.length ≤ c) (hb : w0.heap.size < base) (hr : RW w0 W) (hH : W.heap[w0.heap.size]? = some (gcells 0 none 0 0)) :
    NB w0 M bs (.pointer (some ⟨w0.heap.size, 0, none⟩)) ((W.setCell ⟨w0.heap.size, 0, none⟩ (.int .i64 M)).setCell ⟨w0.heap.size, 1, none⟩ (.slice A bs.length c)) := by
  have hk : ((W.setCell ⟨w0.heap.size, 0, none⟩ (.int .i64 M)).setCell ⟨w0.heap.size, 1, none⟩ (.slice A bs.length c)).heap[w0.heap.size]? = some (.cells #[.int .i64 M, .slice A bs.length c] 26 (0, 0)) :=
    Go.Proofs.YtnldfjoadmehcaaW.PrintWords.blk_put (cs := #[.int .i64 M, .slice none 0 0]) (Go.Proofs.YtnldfjoadmehcaaW.PrintWords.blk_put (cs := #[.int .i64 0, .slice none 0 0]) hH 0 _ rfl) 1 _ rfl
  exact ⟨_, _, _, rfl, hc, (cell_blk hk 0).trans rfl, (cell_blk hk 1).trans rfl, row_weaken (own_set2 hE hb) (Nat.le_of_lt hb), hr.setN (Nat.le_refl _)⟩
theorem bitB_small (bits : Int) {k : Nat} (h : k ≤ 64) : bitB bits k = (Go.bits BinOp.and IntKind.u64 (bits / 2 ^ k) 1 == 1) := by
  unfold bitB
  rw [IntKind.wrap_u64, show min ((k : Int) % 18446744073709551616).toNat 64 = k from by omega]

set_option maxHeartbeats 8000000 in
set_option maxRecDepth 100000 in
theorem subEdges_any {A : Option Addr} {n c : Nat} {zs : List Int} (N bits : Int) (w : World) (h : ReadI w A n zs) (hb : 0 ≤ bits ∧ bits ≤ 18446744073709551615) :
    Calls Try.prog 5 #[.int .i64 N, .slice A n c, .int .u64 bits] w fun e w' => e = .returned (.bool true) ∧ Below w.heap.size w w' := by
  obtain ⟨hb0, hb1⟩ := hb
  go_enter Try.func5, Try.ntmps5
  go_wp2_with fail
  refine (small_any N 20 40 w h (by omega) (by omega)).mono ?_
  rintro e w1 ⟨g, M, es, rfl, hm0, hm1, hes, hre, v, rfl, own1, hbel1⟩
  obtain ⟨A1, c1, rfl, hc1, -, hR1⟩ := OwnE.read own1
  have HRE := Lib.hid hre
  have HBX := Lib.hid (boxg w1 M A1 es.length c1)
  have HE1 := Lib.hid (hR1.below (bel_alloc w1 (gcells M A1 es.length c1)))
  have HB1 := Lib.hid (bel_trans hbel1 (bel_alloc w1 (gcells M A1 es.length c1)))
  have hes4 : es.length ≤ 40 := by have := hes; simp at this; exact this
  have HES := Lib.hid hes4
  have hsz1 : w1.heap.size < (w1.alloc (gcells M A1 es.length c1)).heap.size := by simp
  clear own1 hbel1 hR1 hc1 hm0 hm1 hes hre hes4
  go_wp2_with fail
  generalize w1.alloc (gcells M A1 es.length c1) = w2 at *
  go_loopw [8, 9] (fun v i wr => ∃ k : Nat, k ≤ es.length ∧ i = .int .i64 k ∧ Hid (OwnE wr w2.heap.size v (pickTo bits es k)) ∧ Hid (RW w2 wr)) (fun v i _ => es.length - (intOf i).toNat)
  case atStart => exact ⟨0, Nat.zero_le _, rfl, OwnE.nil _ _, RW.refl w2⟩
  case round =>
    obtain ⟨k, hk, rfl, hown, hrw⟩ := hrel
    obtain ⟨A2, n2, c2, rfl⟩ := OwnE.shape hown.out
    have bg := later2 hrw.out HBX.out
    obtain ⟨bg0, bg1⟩ := bg
    by_cases hlt : k < es.length
    · have hk4 : k ≤ 40 := by have := HES.out; omega
      obtain ⟨b, o, rfl, hc⟩ := HE1.out.2.2 (by omega)
      obtain ⟨hc1, hc2⟩ := hc k hlt
      have HS1 : Hid (w2.cell? ⟨w1.heap.size, 1, none⟩ = some (.slice (some ⟨b, o, none⟩) es.length c1) ∧ w2.cell? ⟨b, o + k * 2, none⟩ = some (.int .i64 (ge es k).1) ∧ w2.cell? ⟨b, o + k * 2 + 1, none⟩ = some (.int .i64 (ge es k).2)) := ⟨HBX.out.2, hc1, hc2⟩
      have HLT := Lib.hid hlt
      have HLN : Hid ((pickTo bits es k).length ≤ 40) := by have := pickTo_length bits es k; unfold Hid; omega
      have hki : (0 : Int) ≤ (k : Int) ∧ (k : Int) < (es.length : Int) := by omega
      clear hc hc1 hc2 hk
      cases hbt : bitB bits k
      · have HN : Hid (pickTo bits es (k + 1) = pickTo bits es k) := by unfold Hid; rw [pickTo, hbt]; simp only [if_true, Bool.false_eq_true, if_false]
        rw [bitB_small bits (show k ≤ 64 by omega)] at hbt
        go_wp2_with fail
        go_roundw
        case rel => exact ⟨k + 1, by have := HLT.out; omega, by go_num, by rw [HN.out]; exact hown, hrw⟩
        case measure => have := HLT.out; simp [intOf]; omega
      · have HN : Hid (pickTo bits es (k + 1) = pickTo bits es k ++ [((ge es k).2, (ge es k).1)]) := by unfold Hid; rw [pickTo, hbt]; simp only [if_true, Bool.false_eq_true, if_false]
        rw [bitB_small bits (show k ≤ 64 by omega)] at hbt
        generalize ge es k = ek at *
        obtain ⟨y1, y2⟩ := ek
        generalize pickTo bits es k = ps at *
        go_wp2_with fail
        go_region_held3 (fun w' => w'.cell? ⟨w1.heap.size, 1, none⟩ = some (.slice (some ⟨b, o, none⟩) es.length c1) ∧ w'.cell? ⟨b, o + k * 2, none⟩ = some (.int .i64 y1) ∧ w'.cell? ⟨b, o + k * 2 + 1, none⟩ = some (.int .i64 y2) ∧ RW w2 w')
          (first | assumption | exact RW.three HS1.out (RW.drew hrw.out) | exact RW.three HS1.out (RW.alloc hrw.out _).drew | exact RW.three HS1.out (RW.alloc (RW.drew hrw.out) _) | exact RW.three HS1.out (RW.grown (And.right (And.right (And.right (by assumption)))) g11 (row_base hown.out)) | fail)
          (first
            | (refine step_appE w2.heap.size (by rfl) _ _ (by rfl) (.slice A2 n2 c2) ps [(y2, y1)] (by rfl) (by first | exact own_alloc_d hown.out _ | exact own_alloc (row_below hown.out ((Drawn.refl _).drew.below _)) _) (Below.size (And.right (And.right (And.right (by assumption))))) _ 1 1 (by rfl) (by first | exact ReadE.box1d _ y2 y1 _ | exact ReadE.box1 _ y2 y1 _) (by have := HLN.out; omega) ?_; intro v1 w11 own1 g11 hat1)
            | fail)
        have hfin : RW w2 w11 := And.right (And.right (And.right (by assumption)))
        have HF := Lib.hid hfin
        go_wp2_with fail
        go_roundw
        case rel => exact ⟨k + 1, by have := HLT.out; omega, by go_num, by rw [HN.out]; exact own1, HF⟩
        case measure => have := HLT.out; simp [intOf]; omega
    · obtain rfl : k = es.length := by omega
      obtain ⟨A', c', e', hcl, -, hRl⟩ := OwnE.read hown.out
      injection e' with e1 e2 e3
      subst e1 e2 e3
      have HCL := Lib.hid hcl
      have HPL := Lib.hid (pickTo_length bits es es.length)
      have HCNT : Hid ((es.filter fun e => decide (e ∉ selE bits es es.length)).length + (pickTo bits es es.length).length = es.length) := by
        have := less_count (bits := bits) (rightB_iff.1 HRE.out).2.2.2.2 es.length (Nat.le_refl _)
        rwa [List.take_length] at this
      have HST := Lib.hid (back_start (bits := bits) HRE.out)
      have HEND0 : Hid (∀ bs, BackK M bits es (pickTo bits es es.length).length bs → bs = es) := fun bs hk => back_end HRE.out hk
      have HSTEP : Hid (∀ k bs, BackK M bits es k bs → k < (pickTo bits es es.length).length → ∃ bs', addP M bs (ge (pickTo bits es es.length) k).1 (ge (pickTo bits es es.length) k).2 = (M, bs', 0) ∧ BackK M bits es (k + 1) bs') := fun k bs hk hlt => back_step HRE.out (by have := HES.out; omega) hk hlt
      have HAG : Hid (0 < (pickTo bits es es.length).length → lessP M (es.filter fun e => decide (e ∉ selE bits es es.length)) ((pickTo bits es es.length).take 1) = (0, [], 7)) := fun q => less_again HRE.out q
      have hle := less_ok (c := c1) (d := c2) (HE1.out.below hrw.out) hRl (less_pick HRE.out bits)
      have hbr := fun k bs => BackK M bits es k bs
      have HRL := Lib.hid hRl
      clear hcl hRl hown hlt hk
      generalize (es.filter fun e => decide (e ∉ selE bits es es.length)) = hs at *
      generalize pickTo bits es es.length = pl at *
      clear hbr
      have pl4 : pl.length ≤ 40 := by have := HPL.out; have := HES.out; omega
      have hs4 : hs.length ≤ 40 := by have := HCNT.out; have := HES.out; omega
      go_wp2_with fail
      refine hle.mono ?_
      rintro e w3 ⟨A3, c3, hc3, rfl, own3, hb3⟩
      have hbA := bel_alloc w3 (gcells M A3 hs.length c3)
      have HH3 := Lib.hid ((readE_own own3).below hbA)
      have bh3 := boxg w3 M A3 hs.length c3
      have HRW3 := Lib.hid ((hrw.out.later hb3).later hbA)
      have HRL3 := Lib.hid ((HRL.out.below hb3).below hbA)
      have HC3 := Lib.hid hc3
      clear hle hrw HRL hbA hb3 own3 hc3 bg0 bg1
      go_wp2_with fail
      generalize w3.alloc (gcells M A3 hs.length c3) = W3 at *
      refine (awake5_any _).mono ?_
      rintro e w5 ⟨rfl, hb5⟩
      obtain ⟨bh0, bh1⟩ := later2 hb5 bh3
      have hrw5 := HRW3.out.later hb5
      obtain ⟨bg0, bg1⟩ := later2 hrw5 HBX.out
      have HRW5 := Lib.hid hrw5
      have HH5 := Lib.hid (HH3.out.below hb5)
      have HRL5 := Lib.hid (HRL3.out.below hb5)
      have hcnt : (es.length : Int) - (pl.length : Int) = (hs.length : Int) := by have := HCNT.out; omega
      clear bh3 HRW3 HH3 HRL3 hb5 hrw5
      go_wp2_with fail
      clear hcnt
      have HBH := Lib.hid (And.intro bh0 bh1)
      have HK0 : Hid (BR w5 M A3 c3 hs (w5.alloc (gcells M A3 hs.length c3))) := ⟨HC3.out, heap_alloc_new _ _, HH5.out.below (bel_alloc _ _), (RW.refl w5).alloc _⟩
      clear bh0 bh1 bg0 bg1
      go_loopw [13] (fun i wr => ∃ (k : Nat) (A : Option Addr) (c : Nat) (bs : List Ed), k ≤ pl.length ∧ i = .int .i64 k ∧ Hid (BackK M bits es k bs) ∧ Hid (BR w5 M A c bs wr)) (fun i _ => pl.length - (intOf i).toNat)
      case atStart => exact ⟨0, A3, c3, hs, Nat.zero_le _, rfl, HST, HK0⟩
      case round =>
        obtain ⟨k, A4, c4, bs, hk, rfl, hbk, hbr⟩ := hrel
        obtain ⟨y0, y1, y2, y3⟩ := blk_cells hbr.out.2.1
        by_cases hlt : k < pl.length
        · obtain ⟨bs', hP, hnx⟩ := HSTEP.out k bs hbk.out hlt
          obtain ⟨b, o, rfl, hc⟩ := (HRL5.out.below hbr.out.2.2.2).2.2 (by omega)
          obtain ⟨hc1, hc2⟩ := hc k hlt
          have HNX := Lib.hid hnx
          have hki : (0 : Int) ≤ (k : Int) ∧ (k : Int) < (pl.length : Int) := by omega
          have hput : ∀ W, ReadE W A4 bs.length bs → Calls Try.prog 28 #[.agg #[.int .i64 M, .slice A4 bs.length c4], .agg #[.int .i64 (ge pl k).1, .int .i64 (ge pl k).2]] W fun e w' => ∃ A c, bs'.length ≤ c ∧ e = .returned (.tuple #[.agg #[.int .i64 M, .slice A bs'.length c], .int .i64 0]) ∧ OwnE w' (W.heap.size + 3) (.slice A bs'.length c) bs' ∧ Below W.heap.size W w' := fun W hW =>
            (pput_any M (ge pl k).1 (ge pl k).2 W hW hbr.out.1).mono fun e w' hq => by
              rw [hP] at hq
              obtain ⟨v, rfl, h1, h2⟩ := hq
              obtain ⟨A', c', rfl, hc', -, -⟩ := OwnE.read h1
              exact ⟨_, _, hc', rfl, h1, h2⟩
          have HS1 : Hid (wr.cell? ⟨w5.heap.size, 0, none⟩ = some (.int .i64 M) ∧ wr.cell? ⟨w5.heap.size, 1, none⟩ = some (.slice A4 bs.length c4) ∧ wr.cell? ⟨b, o + k * 2, none⟩ = some (.int .i64 (ge pl k).1) ∧ wr.cell? ⟨b, o + k * 2 + 1, none⟩ = some (.int .i64 (ge pl k).2)) := ⟨y0, y1, hc1, hc2⟩
          have HLT := Lib.hid hlt
          have HRD := Lib.hid hbr.out.2.2.1
          clear hc hc1 hc2 hP hnx y0 y1 y2 y3
          generalize ge pl k = ek at *
          obtain ⟨f1, f2⟩ := ek
          simp only [] at hput
          go_wp2_with fail
          go_cut [14, 15] (fun s14 s15 wx => NB wr M bs' s14 wx ∧ s15 = .int .i64 0)
          case first =>
            go_region_held3 (fun w' => w'.cell? ⟨w5.heap.size, 0, none⟩ = some (.int .i64 M) ∧ w'.cell? ⟨w5.heap.size, 1, none⟩ = some (.slice A4 bs.length c4) ∧ w'.cell? ⟨b, o + k * 2, none⟩ = some (.int .i64 f1) ∧ w'.cell? ⟨b, o + k * 2 + 1, none⟩ = some (.int .i64 f2) ∧ RW wr w')
              (first | assumption | exact RW.all HS1.out (RW.refl wr).drew | exact RW.all HS1.out (RW.alloc (RW.refl wr).drew _) | exact RW.all HS1.out (RW.alloc (RW.refl wr) _).drew | exact RW.all HS1.out (RW.later (And.right (And.right (And.right (And.right (by assumption))))) hb9) | exact RW.all HS1.out (RW.alloc hr9 _) | exact RW.all HS1.out (RW.setN hr9 (Nat.le_refl _)) | fail)
              (first
                | (go_at_call 28; refine (hput _ (HRD.out.below (And.right (And.right (And.right (And.right (by assumption))))))).mono ?_; rintro e w9 ⟨A9, c9, hc9, rfl, own9, hb9⟩; have hr9 : RW wr w9 := RW.later (And.right (And.right (And.right (And.right (by assumption))))) hb9; (try (have b9 := Lib.hid (blk_new_d hb9))); (try (have n0 := (blk_cells b9.out).1)); (try (have n1 := (blk_cells b9.out).2.1)); (try (have n2 := (blk_cells b9.out).2.2.1)); (try (have n3 := (blk_cells b9.out).2.2.2)))
                | fail)
            all_goals
              go_wp2_with fail
              go_meet
              first
                | exact ⟨nb_alloc own9 hc9 (Nat.le_add_right _ 3) hr9, rfl⟩
                | exact ⟨nb_set own9 hc9 (by simp; omega) hr9 b9.out, rfl⟩
          case rest =>
            obtain ⟨⟨H, A5, c5, rfl, hc5, z0, z1, own5, hrw5⟩, rfl⟩ := hcut
            have hblk := blk_later hbr.out.2.1 hrw5
            obtain ⟨y0, y1, y2, y3⟩ := blk_cells hblk
            have HNXT : Hid (BR w5 M A5 c5 bs' ((wc.setCell ⟨w5.heap.size, 0, none⟩ (.int .i64 M)).setCell ⟨w5.heap.size, 1, none⟩ (.slice A5 bs'.length c5))) := by
              have hlt5 : w5.heap.size < wr.heap.size := blk_lt hbr.out.2.1
              refine ⟨hc5, Go.Proofs.YtnldfjoadmehcaaW.PrintWords.blk_put (cs := #[.int .i64 M, .slice A4 bs.length c4]) (Go.Proofs.YtnldfjoadmehcaaW.PrintWords.blk_put (cs := #[.int .i64 M, .slice A4 bs.length c4]) hblk 0 _ rfl) 1 _ rfl, readE_own (own_set2 own5 hlt5), RW.setN (hbr.out.2.2.2.later hrw5) (Nat.le_refl _)⟩
            clear hrw5 own5 hblk
            go_wp2_with fail
            go_roundw
            case rel => exact ⟨k + 1, A5, c5, bs', by have := HLT.out; omega, by go_num, HNX, HNXT⟩
            case measure => have := HLT.out; simp [intOf]; omega
        · obtain rfl : k = pl.length := by omega
          obtain rfl := HEND0.out bs hbk.out
          obtain ⟨bh0, bh1⟩ := later2 hbr.out.2.2.2 HBH.out
          obtain ⟨bg0, bg1⟩ := later2 (HRW5.out.later hbr.out.2.2.2) HBX.out
          have hge := graphEq_any (N := M) (M := M) (ca := c4) (cb := c1) _ hbr.out.2.2.1 (HE1.out.below (HRW5.out.later hbr.out.2.2.2))
          rw [decide_eq_true rfl, decide_eq_true rfl, Bool.true_and] at hge
          have HBR := Lib.hid (HRW5.out.later hbr.out.2.2.2)
          have HHR := Lib.hid (HH5.out.below hbr.out.2.2.2)
          have HRLR := Lib.hid (HRL5.out.below hbr.out.2.2.2)
          have HBOX := Lib.hid hbr.out.2.1
          have HRBS := Lib.hid hbr.out.2.2.1
          clear hbr hbk hk hlt
          go_wp2_with fail
          refine hge.mono ?_
          rintro e w8 ⟨rfl, hb8⟩
          have HB8 := Lib.hid (HBR.out.later hb8)
          obtain ⟨bh80, bh81⟩ := later2 hb8 ⟨bh0, bh1⟩
          obtain ⟨bg80, bg81⟩ := later2 hb8 ⟨bg0, bg1⟩
          obtain ⟨y0', y1', -, -⟩ := blk_cells (blk_later HBOX.out hb8)
          by_cases h0 : pl.length = 0
          · have hl0 : ((pl.length : Int) == 0) = true := by simp [h0]
            have hge2 := graphEq_any (N := M) (M := M) (ca := c4) (cb := c1) _ (HRBS.out.below hb8) ((HE1.out.below HBR.out).below hb8)
            rw [decide_eq_true rfl, decide_eq_true rfl, Bool.true_and] at hge2
            clear h0 hb8 hge
            go_wp2_with fail
            refine hge2.mono ?_
            rintro e w9 ⟨rfl, hb9⟩
            have HB9 := Lib.hid (bel_trans (bel_trans HB1.out HB8.out) hb9)
            clear hb9
            go_wp2_with fail
            go_ret
            exact ⟨rfl, HB9.out⟩
          · have hl0 : ((pl.length : Int) == 0) = false := by simpa using h0
            have hcut := fun W => cutE_to A2 pl.length c2 1 1 rfl (by have := HCL.out; omega) W
            have hag := HAG.out (by omega)
            have hless : ∀ W, ReadE W A3 hs.length hs → ReadE W A2 1 (pl.take 1) → Calls Try.prog 27 #[.agg #[.int .i64 M, .slice A3 hs.length c3], .slice A2 1 c2] W fun e w' => ∃ A c, 0 ≤ c ∧ e = .returned (.tuple #[.agg #[.int .i64 0, .slice A 0 c], .int .i64 7]) ∧ OwnE w' (W.heap.size + 2) (.slice A 0 c) [] ∧ Below W.heap.size W w' := fun W h1 h2 => less_ok (c := c3) (d := c2) h1 h2 hag
            have HS1 := Lib.hid (And.intro bh80 bh81)
            have HH8 := Lib.hid (HHR.out.below hb8)
            have HL8 := Lib.hid ((HRLR.out.take 1 (by omega)).below hb8)
            have HB9 := Lib.hid (bel_trans HB1.out HB8.out)
            clear h0 hb8 hge hag bh80 bh81 bg80 bg81 bg0 bg1 bh0 bh1 y0' y1' y0 y1 y2 y3
            go_wp2_with fail
            go_region_held3 (fun w' => w'.cell? ⟨w3.heap.size, 0, none⟩ = some (.int .i64 M) ∧ w'.cell? ⟨w3.heap.size, 1, none⟩ = some (.slice A3 hs.length c3) ∧ RW w8 w')
              (first | assumption | exact RW.two HS1.out (RW.refl w8).drew | exact RW.two HS1.out (RW.alloc (RW.refl w8).drew _) | exact RW.two HS1.out (RW.alloc (RW.refl w8) _).drew | exact RW.two HS1.out (RW.later (And.right (And.right (by assumption))) hb9) | exact RW.two HS1.out (RW.alloc hr9 _) | exact RW.two HS1.out (RW.setN hr9 (Nat.le_refl _)) | fail)
              (first
                | (go_at_call 27; refine (hless _ (HH8.out.below (And.right (And.right (by assumption)))) (HL8.out.below (And.right (And.right (by assumption))))).mono ?_; rintro e w9 ⟨A9, c9, hc9, rfl, own9, hb9⟩; have hr9 : RW w8 w9 := RW.later (And.right (And.right (by assumption))) hb9; (try (have b9 := Lib.hid (blk_new_d hb9))); (try (have n0 := (blk_cells b9.out).1)); (try (have n1 := (blk_cells b9.out).2.1)); (try (have n2 := (blk_cells b9.out).2.2.1)); (try (have n3 := (blk_cells b9.out).2.2.2)))
                | fail)
            · have HF := Lib.hid (bel_trans HB9.out (hr9.alloc (gcells 0 A9 0 c9)))
              go_wp2_with fail
              go_ret
              exact ⟨rfl, HF.out⟩
            · have HF := Lib.hid (bel_trans HB9.out (RW.setN (u := .int .i64 0) (v := .slice A9 0 c9) hr9 (Nat.le_refl _)))
              go_wp2_with fail
              go_ret
              exact ⟨rfl, HF.out⟩

theorem subEdges_walk {A : Option Addr} {n c : Nat} {zs : List Int} (N bits : Int) (w : World) (_ : -9223372036854775808 ≤ N ∧ N ≤ 9223372036854775807) (h : ReadI w A n zs) (hb : 0 ≤ bits ∧ bits ≤ 18446744073709551615) :
    Calls Try.prog 5 #[.int .i64 N, .slice A n c, .int .u64 bits] w fun e w' => e = .returned (.bool true) ∧ Below w.heap.size w w' := subEdges_any N bits w h hb

end Go.Proofs.Ytnldfjoadmehcaa
