/- The walk of the statement SubTwice. -/
import Derived.Test.YtnldfjoadmehcaaSubJoined
import Derived.Deep.DeepCutAuto
set_option linter.unusedVariables false
set_option linter.unusedSimpArgs false
namespace Go.Proofs.Ytnldfjoadmehcaa
open Go.RowKit

/-- A box that holds a graph that was kept, and its names. -/
def KeptBox (w0 : World) (N : Int) (es : List Ed) (l : List Int) (s t : Value) (W : World) : Prop :=
  ∃ H A3 c3 A4 c4, s = .pointer (some ⟨H, 0, none⟩) ∧ t = .slice A4 l.length c4 ∧ W.cell? ⟨H, 0, none⟩ = some (.int .i64 N) ∧ W.cell? ⟨H, 1, none⟩ = some (.slice A3 es.length c3) ∧ ReadE W A3 es.length es ∧ ReadI W A4 l.length l ∧ RW w0 W
theorem own_ptr {w : World} {base e size n : Nat} {A : Option Addr} {m c : Nat} {xs : List Value} (h : w.ownsRow base e size (.slice A m c) n xs) : True := trivial
theorem readE_own {w : World} {base : Nat} {A : Option Addr} {n c : Nat} {es : List Ed} (h : OwnE w base (.slice A n c) es) : ReadE w A es.length es := by
  obtain ⟨A', c', e, -, -, r⟩ := OwnE.read h
  injection e with e1 e2 e3
  subst e1
  exact r
theorem readI_own {w : World} {base : Nat} {A : Option Addr} {n c : Nat} {xs : List Int} (h : OwnI w base (.slice A n c) xs) : ReadI w A xs.length xs := by
  obtain ⟨A', c', e, -, -, r⟩ := OwnI.read h
  injection e with e1 e2 e3
  subst e1
  exact r
theorem keptBox_alloc {w0 W : World} {base : Nat} {N : Int} {es : List Ed} {l : List Int} {A3 A4 : Option Addr} {c3 c4 : Nat} (hE : OwnE W base (.slice A3 es.length c3) es) (hI : OwnI W base (.slice A4 l.length c4) l) (hr : RW w0 W) :
    KeptBox w0 N es l (.pointer (some ⟨W.heap.size, 0, none⟩)) (.slice A4 l.length c4) (W.alloc (gcells N A3 es.length c3)) :=
  ⟨_, _, _, _, _, rfl, rfl, (boxg W N A3 es.length c3).1, (boxg W N A3 es.length c3).2, (readE_own hE).below (bel_alloc _ _), (readI_own hI).below (bel_alloc _ _), hr.alloc _⟩
theorem RW.setN {w0 W : World} {H : Nat} {u v : Value} (r : RW w0 W) (h : w0.heap.size ≤ H) : RW w0 ((W.setCell ⟨H, 0, none⟩ u).setCell ⟨H, 1, none⟩ v) := Below.setCell (Below.setCell r h _) h _
theorem keptBox_set {w0 W : World} {base H : Nat} {N : Int} {es : List Ed} {l : List Int} {A3 A4 : Option Addr} {c3 c4 : Nat} (hE : OwnE W base (.slice A3 es.length c3) es) (hI : OwnI W base (.slice A4 l.length c4) l) (hr : RW w0 W)
    (hH : W.heap[H]? = some (gcells 0 none 0 0)) (h0 : w0.heap.size ≤ H) (h1 : H < base) :
    KeptBox w0 N es l (.pointer (some ⟨H, 0, none⟩)) (.slice A4 l.length c4) ((W.setCell ⟨H, 0, none⟩ (.int .i64 N)).setCell ⟨H, 1, none⟩ (.slice A3 es.length c3)) := by
  have hb : ((W.setCell ⟨H, 0, none⟩ (.int .i64 N)).setCell ⟨H, 1, none⟩ (.slice A3 es.length c3)).heap[H]? = some (.cells #[.int .i64 N, .slice A3 es.length c3] 26 (0, 0)) :=
    Go.Proofs.YtnldfjoadmehcaaW.PrintWords.blk_put (cs := #[.int .i64 N, .slice none 0 0]) (Go.Proofs.YtnldfjoadmehcaaW.PrintWords.blk_put (cs := #[.int .i64 0, .slice none 0 0]) hH 0 _ rfl) 1 _ rfl
  exact ⟨_, _, _, _, _, rfl, rfl, (cell_blk hb 0).trans rfl, (cell_blk hb 1).trans rfl, readE_own (own_set2 hE h1), readI_own (own_set2 hI h1), hr.setN h0⟩
/-- Two cells that stay, and what came later. -/
theorem RW.two {w0 W : World} {a1 a2 : Addr} {v1 v2 : Value} (h : w0.cell? a1 = some v1 ∧ w0.cell? a2 = some v2) (r : RW w0 W) : W.cell? a1 = some v1 ∧ W.cell? a2 = some v2 ∧ RW w0 W := ⟨cell_later r h.1, cell_later r h.2, r⟩
theorem blk_new_d {wr W' : World} {o : Obj} (g : Below (wr.alloc o).drew.heap.size (wr.alloc o).drew W') : W'.heap[wr.heap.size]? = some o := (g.block _ (by simp)).trans (heap_alloc_new wr o)
theorem blk_new {wr W' : World} {o : Obj} (g : Below (wr.alloc o).heap.size (wr.alloc o) W') : W'.heap[wr.heap.size]? = some o := (g.block _ (by simp)).trans (heap_alloc_new wr o)
theorem blk_lt {w : World} {H : Nat} {o : Obj} (h : w.heap[H]? = some o) : H < w.heap.size := (Array.getElem?_eq_some_iff.1 h).1
theorem blk_later {w w' : World} {H : Nat} {o : Obj} (h : w.heap[H]? = some o) (g : Below w.heap.size w w') : w'.heap[H]? = some o := (g.block _ (blk_lt h)).trans h
theorem blk_cells {w : World} {H : Nat} {t : TypeId} {x y : Value} (h : w.heap[H]? = some (.cells #[x, y] t (0, 0))) : w.cell? ⟨H, 0, none⟩ = some x ∧ w.cell? ⟨H, 1, none⟩ = some y ∧ w.frozen? ⟨H, 0, none⟩ = false ∧ w.frozen? ⟨H, 1, none⟩ = false :=
  ⟨(cell_blk h 0).trans rfl, (cell_blk h 1).trans rfl, frozen_blk h 0, frozen_blk h 1⟩

/-- What Keep and Without leave, where they keep. -/
def KeepOk (N : Int) (hs : List Ed) (l : List Int) (W : World) (e : Ending) (w' : World) : Prop :=
  ∃ A3 c3 A4 c4, e = .returned (.tuple #[.agg #[.int .i64 N, .slice A3 hs.length c3], .slice A4 l.length c4, .int .i64 0]) ∧ OwnE w' (W.heap.size + 2) (.slice A3 hs.length c3) hs ∧ OwnI w' (W.heap.size + 2) (.slice A4 l.length c4) l ∧ Below W.heap.size W w'
theorem KeepQ.ok {N : Int} {hs : List Ed} {l : List Int} {W : World} {e : Ending} {w' : World} (h : KeepQ (N, hs, l, 0) W e w') : KeepOk N hs l W e w' := by
  obtain ⟨v, u, rfl, h1, h2, h3⟩ := h
  obtain ⟨A3, c3, rfl, -, -, -⟩ := OwnE.read h1
  obtain ⟨A4, c4, rfl, -, -, -⟩ := OwnI.read h2
  exact ⟨_, _, _, _, rfl, h1, h2, h3⟩
theorem keep_ok {A B : Option Addr} {n c m d : Nat} {es hs : List Ed} {l l2 : List Int} {N N2 : Int} {w : World} (h : ReadE w A n es) (hl : ReadI w B m l) (hk : keepR N es l true = (N2, hs, l2, 0)) :
    Calls Try.prog 19 #[.agg #[.int .i64 N, .slice A n c], .slice B m d] w (KeepOk N2 hs l2 w) :=
  (keep_any N w h hl).mono fun e w' hq => by
    rw [hk] at hq
    exact hq.ok

set_option maxHeartbeats 8000000 in
set_option maxRecDepth 100000 in
theorem subTwice_any {A : Option Addr} {n c : Nat} {zs : List Int} (N sb lb : Int) (w : World) (h : ReadI w A n zs) (hb0 : 0 ≤ sb ∧ sb ≤ 18446744073709551615) (hb1 : 0 ≤ lb ∧ lb ≤ 18446744073709551615) :
    Calls Try.prog 3 #[.int .i64 N, .slice A n c, .int .u64 sb, .int .u64 lb] w fun e w' => e = .returned (.bool true) ∧ Below w.heap.size w w' := by
  have hsome : ∀ (W : World) (M : Nat) (A : Option Addr) (n c : Nat), Calls Try.prog 20 #[.agg #[.int .i64 M, .slice A n c], .int .u64 sb] W fun e w' => ∃ v, e = .returned v ∧ OwnI w' (W.heap.size + 1) v (someL M sb) ∧ Below W.heap.size W w' := fun W M A n c => some_any M sb W hb0.1 hb0.2
  have hless : ∀ (W : World) (M : Nat) (A : Option Addr) (n c : Nat), Calls Try.prog 20 #[.agg #[.int .i64 M, .slice A n c], .int .u64 lb] W fun e w' => ∃ v, e = .returned v ∧ OwnI w' (W.heap.size + 1) v (someL M lb) ∧ Below W.heap.size W w' := fun W M A n c => some_any M lb W hb1.1 hb1.2
  have HSO := Lib.hid hsome
  have HLE := Lib.hid hless
  clear hsome hless hb0 hb1
  go_enter Try.func3, Try.ntmps3
  go_wp2_with fail
  refine (small_any N 24 50 w h (by omega) (by omega)).mono ?_
  rintro e w1 ⟨g, m, es, rfl, hm0, hm1, hes, hre, v, rfl, own1, hbel1⟩
  obtain ⟨M, rfl⟩ : ∃ M : Nat, m = M := ⟨m.toNat, by omega⟩
  obtain ⟨A1, c1, rfl, hc1, -, hR1⟩ := OwnE.read own1
  have HM : Hid (M ≤ 24) := by unfold Hid; omega
  have HRE := Lib.hid hre
  have hBX1 := boxg w1 M A1 es.length c1
  have hE1 := hR1.below (bel_alloc w1 (gcells M A1 es.length c1))
  have HB1 := Lib.hid (bel_trans hbel1 (bel_alloc w1 (gcells M A1 es.length c1)))
  have HL : Hid (someL M sb = sel (bitB sb) M) := someL_sel (by have := HM.out; omega)
  have HKR := Lib.hid (keepR_sel (p := bitB sb) hre)
  have HRH : Hid (rightB (sel (bitB sb) M).length (keptE (nmF (bitB sb)) es) = true) := kept_right hre
  have HLL : Hid ((sel (bitB sb) M).length ≤ 24) := by have := sel_length (bitB sb) M; have := HM.out; unfold Hid; omega
  have HLM : Hid (someL (sel (bitB sb) M).length lb = sel (bitB lb) (sel (bitB sb) M).length) := someL_sel (by have := HLL.out; omega)
  have HKR2 := Lib.hid (keepR_sel (p := bitB lb) HRH.out)
  have HNM : Hid ((sel (bitB lb) (sel (bitB sb) M).length).map (fun x => gi (sel (bitB sb) M) x.toNat) = sel (both (bitB sb) (bitB lb)) M) := both_sel _ _ M M (Nat.le_refl _)
  have HKR3 := Lib.hid (keepR_sel (p := both (bitB sb) (bitB lb)) hre)
  have HTW := Lib.hid (kept_twice (p := bitB sb) (r := bitB lb) hre)
  have HIN : Hid (∀ x, x ∈ sel (bitB lb) (sel (bitB sb) M).length → 0 ≤ x ∧ x < (sel (bitB sb) M).length) := fun x hx => by
    obtain ⟨j, j1, j2, rfl⟩ := mem_sel.1 hx
    omega
  rw [HTW.out] at HKR2
  clear own1 hbel1 hR1 hc1 hm0 hm1 hes hre HTW
  go_wp2_with fail
  generalize w1.alloc (gcells M A1 es.length c1) = W1 at *
  have hkeep : ∀ W A2 c2, ReadE W A1 es.length es → ReadI W A2 (sel (bitB sb) M).length (sel (bitB sb) M) → Calls Try.prog 19 #[.agg #[.int .i64 M, .slice A1 es.length c1], .slice A2 (sel (bitB sb) M).length c2] W (KeepOk (sel (bitB sb) M).length (keptE (nmF (bitB sb)) es) (sel (bitB sb) M) W) := fun W A2 c2 h1 h2 => keep_ok h1 h2 HKR.out
  have hso : ∀ (W : World) , Calls Try.prog 20 #[.agg #[.int .i64 M, .slice A1 es.length c1], .int .u64 sb] W fun e w' => ∃ v, e = .returned v ∧ OwnI w' (W.heap.size + 1) v (sel (bitB sb) M) ∧ Below W.heap.size W w' := fun W => by rw [← HL.out]; exact HSO.out W M A1 es.length c1
  generalize hlg : sel (bitB sb) M = l at *
  generalize hhg : keptE (nmF (bitB sb)) es = hs at *
  have HS1 := Lib.hid hBX1
  go_cut [10, 11, 12] (fun s10 s11 s12 wx => KeptBox W1 l.length hs l s10 s11 wx ∧ s12 = .int .i64 0)
  case first =>
    go_region_held3 (fun w' => w'.cell? ⟨w1.heap.size, 0, none⟩ = some (.int .i64 M) ∧ w'.cell? ⟨w1.heap.size, 1, none⟩ = some (.slice A1 es.length c1) ∧ RW W1 w')
      (first | exact RW.two HS1.out (RW.refl W1) | exact RW.two HS1.out (RW.refl W1).drew | exact RW.two HS1.out (RW.alloc (RW.refl W1).drew _) | exact RW.two HS1.out (RW.alloc (RW.refl W1) _).drew | exact RW.two HS1.out (RW.later (And.right (And.right (by assumption))) hb9) | exact RW.two HS1.out (RW.later (And.right (And.right (by assumption))) hb10) | exact RW.two HS1.out (RW.alloc hr9 _) | exact RW.two HS1.out (RW.alloc hr10 _) | exact RW.two HS1.out (RW.setN hr10 (Nat.le_refl _)) | exact RW.two HS1.out (RW.setN hr10 (Below.size hr9)) | fail)
      (first
        | (go_at_call 20; refine (hso _).mono ?_; rintro e w9 ⟨v9, rfl, own9, hb9⟩; obtain ⟨A9, c9, rfl, -, -, hR9⟩ := OwnI.read own9; have hr9 : RW W1 w9 := RW.later (And.right (And.right (by assumption))) hb9; (try (have b9 := Lib.hid (blk_new_d hb9))))
        | (go_at_call 19; (first | (refine (hkeep _ A9 c9 (hE1.below (And.right (And.right (by assumption)))) hR9).mono ?_) | (refine (hkeep _ A9 c9 (hE1.below (And.right (And.right (by assumption)))) (hR9.below (bel_alloc _ _))).mono ?_) | fail); rintro e w10 ⟨A3, c3, A4, c4, rfl, ownE10, ownI10, hb10⟩; have hr10 : RW W1 w10 := RW.later (And.right (And.right (by assumption))) hb10; (try (have b10 := Lib.hid (blk_new hb10))); (try (have b10 := Lib.hid (blk_later b9.out hb10))); (try (have n0 := (blk_cells b10.out).1)); (try (have n1 := (blk_cells b10.out).2.1)); (try (have n2 := (blk_cells b10.out).2.2.1)); (try (have n3 := (blk_cells b10.out).2.2.2)))
        | fail)
    all_goals
      go_wp2_with fail
      go_meet
      first
        | exact ⟨keptBox_alloc ownE10 ownI10 hr10, rfl⟩
        | exact ⟨keptBox_set ownE10 ownI10 hr10 b10.out (Nat.le_refl _) (by have := Below.size hr9; omega), rfl⟩
        | exact ⟨keptBox_set ownE10 ownI10 hr10 b10.out (Below.size hr9) (by simp; omega), rfl⟩
  case rest =>
    obtain ⟨⟨H, A3, c3, A4, c4, rfl, rfl, x0, x1, hEh, hIw, hrw⟩, rfl⟩ := hcut
    have bg := later2 hrw HS1.out
    have hEg := hE1.below hrw
    have HBc := Lib.hid (bel_trans HB1.out hrw)
    clear hkeep hso hrw HS1 hE1 hBX1
    go_wp2_with fail
    refine (awake5_any _).mono ?_
    rintro e w5 ⟨rfl, hb5⟩
    have bg5 := later2 hb5 bg
    have bh5 := later2 hb5 ⟨x0, x1⟩
    have hEg5 := hEg.below hb5
    have hEh5 := hEh.below hb5
    have hIw5 := hIw.below hb5
    have HB5 := Lib.hid (bel_trans HBc.out hb5)
    clear bg x0 x1 hEg hEh hIw HBc hb5
    obtain ⟨bh50, bh51⟩ := bh5
    go_wp2_with fail
    have hkeep : ∀ W A2 c2, ReadE W A3 hs.length hs → ReadI W A2 (sel (bitB lb) l.length).length (sel (bitB lb) l.length) → Calls Try.prog 19 #[.agg #[.int .i64 l.length, .slice A3 hs.length c3], .slice A2 (sel (bitB lb) l.length).length c2] W (KeepOk (sel (bitB lb) l.length).length (keptE (nmF (both (bitB sb) (bitB lb))) es) (sel (bitB lb) l.length) W) := fun W A2 c2 h1 h2 => keep_ok h1 h2 HKR2.out
    have hso : ∀ (W : World) , Calls Try.prog 20 #[.agg #[.int .i64 l.length, .slice A3 hs.length c3], .int .u64 lb] W fun e w' => ∃ v, e = .returned v ∧ OwnI w' (W.heap.size + 1) v (sel (bitB lb) l.length) ∧ Below W.heap.size W w' := fun W => by rw [← HLM.out]; exact HLE.out W l.length A3 hs.length c3
    have HL2 : Hid ((sel (bitB lb) l.length).length = (sel (both (bitB sb) (bitB lb)) M).length) := by
      have := congrArg List.length HNM.out
      rwa [List.length_map] at this
    have HL24 : Hid ((sel (bitB lb) l.length).length ≤ 24) := by have := sel_length (bitB lb) l.length; have := HLL.out; unfold Hid; omega
    generalize sel (bitB lb) l.length = l2 at *
    generalize keptE (nmF (both (bitB sb) (bitB lb))) es = ks at *
    generalize sel (both (bitB sb) (bitB lb)) M = l3 at *
    have HS2 := Lib.hid (And.intro bh50 bh51)
    clear HKR2 HLM HLE HSO HKR
    go_cut [13, 14, 15] (fun s13 s14 s15 wx => KeptBox w5 l2.length ks l2 s13 s14 wx ∧ s15 = .int .i64 0)
    case first =>
      go_region_held3 (fun w' => w'.cell? ⟨H, 0, none⟩ = some (.int .i64 l.length) ∧ w'.cell? ⟨H, 1, none⟩ = some (.slice A3 hs.length c3) ∧ RW w5 w')
        (first | exact RW.two HS2.out (RW.refl w5) | exact RW.two HS2.out (RW.refl w5).drew | exact RW.two HS2.out (RW.alloc (RW.refl w5).drew _) | exact RW.two HS2.out (RW.alloc (RW.refl w5) _).drew | exact RW.two HS2.out (RW.later (And.right (And.right (by assumption))) hb9) | exact RW.two HS2.out (RW.later (And.right (And.right (by assumption))) hb10) | exact RW.two HS2.out (RW.alloc hr9 _) | exact RW.two HS2.out (RW.alloc hr10 _) | exact RW.two HS2.out (RW.setN hr10 (Nat.le_refl _)) | exact RW.two HS2.out (RW.setN hr10 (Below.size hr9)) | fail)
        (first
          | (go_at_call 20; refine (hso _).mono ?_; rintro e w9 ⟨v9, rfl, own9, hb9⟩; obtain ⟨A9, c9, rfl, -, -, hR9⟩ := OwnI.read own9; have hr9 : RW w5 w9 := RW.later (And.right (And.right (by assumption))) hb9; (try (have b9 := Lib.hid (blk_new_d hb9))))
          | (go_at_call 19; (first | (refine (hkeep _ A9 c9 (hEh5.below (And.right (And.right (by assumption)))) hR9).mono ?_) | (refine (hkeep _ A9 c9 (hEh5.below (And.right (And.right (by assumption)))) (hR9.below (bel_alloc _ _))).mono ?_) | fail); rintro e w10 ⟨A5, c5, A6, c6, rfl, ownE10, ownI10, hb10⟩; have hr10 : RW w5 w10 := RW.later (And.right (And.right (by assumption))) hb10; (try (have b10 := Lib.hid (blk_new hb10))); (try (have b10 := Lib.hid (blk_later b9.out hb10))); (try (have n0 := (blk_cells b10.out).1)); (try (have n1 := (blk_cells b10.out).2.1)); (try (have n2 := (blk_cells b10.out).2.2.1)); (try (have n3 := (blk_cells b10.out).2.2.2)))
          | fail)
      all_goals
        go_wp2_with fail
        go_meet
        first
          | exact ⟨keptBox_alloc ownE10 ownI10 hr10, rfl⟩
          | exact ⟨keptBox_set ownE10 ownI10 hr10 b10.out (Nat.le_refl _) (by have := Below.size hr9; omega), rfl⟩
          | exact ⟨keptBox_set ownE10 ownI10 hr10 b10.out (Below.size hr9) (by simp; omega), rfl⟩
    case rest =>
      obtain ⟨⟨H2, A5, c5, A6, c6, rfl, rfl, y0, y1, hEk, hIk, hrw⟩, rfl⟩ := hcut
      have bg6 := later2 hrw bg5
      have hEg6 := hEg5.below hrw
      have hIw6 := hIw5.below hrw
      have HB6 := Lib.hid (bel_trans HB5.out hrw)
      have HK6 := Lib.hid (And.intro y0 y1)
      have HEk := Lib.hid hEk
      clear hkeep hso hrw HS2 bg5 hEg5 hEh5 hIw5 bh50 bh51 HB5 y0 y1 hEk
      obtain ⟨wb, rfl⟩ : ∃ wb : World, wb = wc := ⟨_, rfl⟩
      have HI6 := Lib.hid (And.intro hIw6 hIk)
      have HG6 := Lib.hid (And.intro bg6 hEg6)
      have ll24 : l.length ≤ 24 := HLL.out
      have l224 : l2.length ≤ 24 := HL24.out
      clear hIw6 hIk bg6 hEg6
      go_wp2_with fail
      go_loopw [16, 17] (fun v i wr => ∃ k : Nat, k ≤ l2.length ∧ i = .int .i64 k ∧ Hid (OwnI wr wb.heap.size v ((l2.take k).map fun x => gi l x.toNat)) ∧ Hid (RW wb wr)) (fun v i _ => l2.length - (intOf i).toNat)
      case atStart => exact ⟨0, Nat.zero_le _, rfl, World.ownsRow_nil _ _ _ _, RW.refl wb⟩
      case round =>
        obtain ⟨k, hk, rfl, hown, hrw⟩ := hrel
        obtain ⟨A7, n7, c7, rfl⟩ := OwnI.shape hown.out
        by_cases hlt : k < l2.length
        · obtain ⟨hy0, hy1⟩ := HIN.out _ (gi_mem hlt)
          have hts := take_succ_eq (xs := l2) (k := k) hlt
          have HTS := Lib.hid hts
          clear hts
          obtain ⟨b, o, rfl, hc⟩ := (HI6.out.2.below hrw.out).2.2 (by omega)
          have ck := hc k hlt
          clear hc
          generalize gi l2 k = y at *
          obtain ⟨yn, rfl⟩ : ∃ yn : Nat, y = yn := ⟨y.toNat, by omega⟩
          obtain ⟨b', o', rfl, hc'⟩ := (HI6.out.1.below hrw.out).2.2 (by omega)
          have cy := hc' yn (by omega)
          clear hc'
          have q1 : (0 : Int) ≤ (k : Int) ∧ (k : Int) < (l2.length : Int) := by omega
          have q2 : (0 : Int) ≤ (yn : Int) ∧ (yn : Int) < (l.length : Int) := by omega
          have q3 : decide ((k : Int) < (l2.length : Int)) = true := by rw [decide_eq_true_eq]; omega
          have q4 : decide ((yn : Int) < 0) = false := by rw [decide_eq_false_iff_not]; omega
          have q5 : decide ((l.length : Int) ≤ (yn : Int)) = false := by rw [decide_eq_false_iff_not]; omega
          have HNEW : Hid ((l2.take (k + 1)).map (fun x => gi l x.toNat) = (l2.take k).map (fun x => gi l x.toNat) ++ [gi l yn]) := by
            unfold Hid
            rw [HTS.out, List.map_append]
            simp
          have HLN : Hid (((l2.take k).map fun x => gi l x.toNat).length ≤ 24) := by
            unfold Hid
            rw [List.length_map, List.length_take]
            omega
          have hsz := Below.size hrw.out
          generalize gi l yn = z at *
          generalize (l2.take k).map (fun x => gi l x.toNat) = ns at *
          have HLT := Lib.hid hlt
          clear hlt hk hy0 hy1
          go_wp2_with (at_builtin; refine app_intz (W := wr) wb.heap.size wr.heap.size rfl rfl _ _ rfl (.slice A7 n7 c7) ns z rfl rfl hown.out hsz (by have := HLN.out; omega) ?_; intro v1 w8 own8 hB8 hg8)
          have HR8 : Hid (RW wb w8) := Below.trans hrw.out hB8
          go_roundw
          case rel => exact ⟨k + 1, by have := HLT.out; omega, by go_num, by rw [HNEW.out]; exact own8, HR8⟩
          case measure => have := HLT.out; simp [intOf]; omega
        · obtain rfl : k = l2.length := by omega
          rw [List.take_of_length_le (Nat.le_refl _), HNM.out] at hown
          obtain ⟨A', c', e', -⟩ := OwnI.read hown.out
          injection e' with e1 e2 e3
          subst e2
          clear e1 e3
          have hR7 := readI_own hown.out
          have bg7 := later2 hrw.out HG6.out.1
          have hkeep : Calls Try.prog 19 #[.agg #[.int .i64 M, .slice A1 es.length c1], .slice A7 l3.length c7] wr (KeepOk l3.length ks l3 wr) := keep_ok (HG6.out.2.below hrw.out) hR7 HKR3.out
          obtain ⟨bg70, bg71⟩ := bg7
          go_wp2_with fail
          refine hkeep.mono ?_
          rintro e w8 ⟨A8, c8, A9, c9, rfl, ownE8, ownI8, hb8⟩
          have hbA := bel_alloc w8 (gcells l3.length A8 ks.length c8)
          have hrwA := RW.later (RW.later hrw.out hb8) hbA
          have hk2 := later2 hrwA HK6.out
          obtain ⟨z0, z1⟩ := hk2
          have hge := graphEq_any (N := (l3.length : Int)) (M := (l3.length : Int)) (ca := c5) (cb := c8) _ (HEk.out.below hrwA) ((readE_own ownE8).below hbA)
          rw [decide_eq_true rfl, decide_eq_true rfl, Bool.true_and] at hge
          have hL3 := HL2.out
          have HPL := Lib.hid (And.intro ((readI_own ownI8).below hbA) ((hR7.below hb8).below hbA))
          have HRA := Lib.hid hrwA
          clear hkeep hbA hrwA bg70 bg71 ownE8 ownI8 hb8 hR7
          go_wp2_with fail
          refine hge.mono ?_
          rintro e w10 ⟨rfl, hb10⟩
          have hpl := plain_any (ca := c9) (cb := c7) w10 (HPL.out.1.below hb10) (HPL.out.2.below hb10)
          rw [decide_eq_true rfl] at hpl
          have HR10 := Lib.hid (RW.later HRA.out hb10)
          clear hge hb10 hL3
          go_wp2_with fail
          refine hpl.mono ?_
          rintro e w11 ⟨rfl, hd⟩
          have HR11 := Lib.hid (RW.later HR10.out (hd.below _))
          clear hd hpl
          go_wp2_with fail
          go_ret
          exact ⟨rfl, bel_trans HB6.out HR11.out⟩

theorem subTwice_walk {A : Option Addr} {n c : Nat} {zs : List Int} (N sb lb : Int) (w : World) (_ : -9223372036854775808 ≤ N ∧ N ≤ 9223372036854775807) (h : ReadI w A n zs) (hb0 : 0 ≤ sb ∧ sb ≤ 18446744073709551615) (hb1 : 0 ≤ lb ∧ lb ≤ 18446744073709551615) :
    Calls Try.prog 3 #[.int .i64 N, .slice A n c, .int .u64 sb, .int .u64 lb] w fun e w' => e = .returned (.bool true) ∧ Below w.heap.size w w' := subTwice_any N sb lb w h hb0 hb1

end Go.Proofs.Ytnldfjoadmehcaa
