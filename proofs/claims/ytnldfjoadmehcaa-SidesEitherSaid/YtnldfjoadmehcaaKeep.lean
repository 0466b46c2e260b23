/- The walks of sub.Keep and sub.Without. -/
import Derived.Test.YtnldfjoadmehcaaKept2
set_option linter.unusedVariables false
set_option linter.unusedSimpArgs false
namespace Go.Proofs.Ytnldfjoadmehcaa
open Go.RowKit

/-- Of whom it is so. -/
def inB (l : List Int) (so : Bool) (j : Nat) : Bool := decide ((j : Int) ∈ l) == so
/-- Who stays, in order. -/
def wasL (N : Int) (l : List Int) (so : Bool) : List Int := sel (inB l so) N.toNat
/-- The edges that stay, by new names. -/
def stayE (es : List Ed) (l : List Int) (so : Bool) : List Ed := keptE (nmF (inB l so)) es
/-- What is kept of a graph: vertices, edges, names, why not. -/
def keepR (N : Int) (es : List Ed) (l : List Int) (so : Bool) : Int × List Ed × List Int × Int :=
  if namedE N es l = 0 then (((wasL N l so).length : Int), stayE es l so, wasL N l so, 0) else (0, [], [], namedE N es l)
def KeepQ (P : Int × List Ed × List Int × Int) (w : World) (e : Ending) (w' : World) : Prop :=
  ∃ v u, e = .returned (.tuple #[.agg #[.int .i64 P.1, v], u, .int .i64 P.2.2.2]) ∧ OwnE w' (w.heap.size + 2) v P.2.1 ∧ OwnI w' (w.heap.size + 2) u P.2.2.1 ∧ Below w.heap.size w w'

set_option maxHeartbeats 4000000 in
set_option maxRecDepth 100000 in
theorem keep_any {A B : Option Addr} {n c m d : Nat} {es : List Ed} {l : List Int} (N : Int) (w : World) (h : ReadE w A n es) (hl : ReadI w B m l) :
    Calls Try.prog 19 #[.agg #[.int .i64 N, .slice A n c], .slice B m d] w (KeepQ (keepR N es l true) w) := by
  have hz0 : GZ w N A n c ((w.alloc (gcells N A n c)).alloc (gcells 0 none 0 0)) := Below.refl _ _
  have HZ0 := Lib.hid hz0
  have HL := Lib.hid (List.take_of_length_le (l := l) (i := m) (by have := hl.1; omega))
  have hnm := named_any (c := c) (d := d) N _ (h.below (below_box hz0.gb)) (hl.below (below_box hz0.gb))
  clear hz0
  by_cases hp : namedE N es l = 0
  · have hP : Hid (keepR N es l true = (((wasL N l true).length : Int), stayE es l true, wasL N l true, 0)) := by unfold Hid keepR; rw [if_pos hp]
    have HP := Lib.hid hp
    have HRB : Hid (rightB N es = true) := by
      unfold Hid
      by_cases hr : rightB N es = false
      · unfold namedE at hp
        rw [if_pos hr] at hp
        exact absurd hp (by decide)
      · simpa using hr
    obtain ⟨M, rfl⟩ : ∃ M : Nat, N = M := ⟨N.toNat, by have := (rightB_iff.1 HRB.out).1; omega⟩
    clear hp
    go_enter Try.func19, Try.ntmps19
    go_wp2_with fail
    refine hnm.mono ?_
    rintro e w1 ⟨v1, rfl, hb1, hok⟩
    obtain ⟨g1, hg1, rfl, hrow⟩ := hok HP.out
    rw [HP.out]
    have z1 : GZ w M A n c w1 := GZ.later HZ0.out hb1
    obtain ⟨g0, g1'⟩ := gbox z1.gb
    obtain ⟨r0, r1, r2, r3⟩ := GZ.res z1
    have hrow2 : RowF w1 g1 4 M (fun j => .bool (decide ((j : Int) ∈ l))) := hrow.congr fun j hj => by unfold isIn; rw [HL.out]
    have hk := kept_any (c := c) true w1 (h.below (below_box z1.gb)) HRB.out hrow2
    have hzz := z1.size
    have Z1 := Lib.hid z1
    clear hb1 hok hrow hrow2 z1 hnm
    simp only [Int.toNat_natCast]
    go_wp2_with fail
    refine hk.mono ?_
    rintro e w2 ⟨v, u, rfl, ownE, ownI, hb2⟩
    obtain ⟨A2, n2, c2, rfl⟩ := OwnE.shape ownE
    obtain ⟨A3, n3, c3, rfl⟩ := OwnI.shape ownI
    have Z2 : GZ w M A n c w2 := Z1.out.later hb2
    obtain ⟨r20, r21, r22, r23⟩ := GZ.res Z2
    have HEND0 : ((w2.setCell ⟨w.heap.size + 1, 0, none⟩ (.int .i64 ((wasL M l true).length : Int))).setCell ⟨w.heap.size + 1, 1, none⟩ (.slice A2 n2 c2)).heap[w.heap.size + 1]? = some (.cells #[.int .i64 ((wasL M l true).length : Int), .slice A2 n2 c2] 26 (0, 0)) :=
      Go.Proofs.YtnldfjoadmehcaaW.PrintWords.blk_put (cs := #[.int .i64 ((wasL M l true).length : Int), .slice none 0 0]) (Go.Proofs.YtnldfjoadmehcaaW.PrintWords.blk_put (cs := #[.int .i64 0, .slice none 0 0]) Z2.blk 0 _ rfl) 1 _ rfl
    have HBEL0 : Below w.heap.size w ((w2.setCell ⟨w.heap.size + 1, 0, none⟩ (.int .i64 ((wasL M l true).length : Int))).setCell ⟨w.heap.size + 1, 1, none⟩ (.slice A2 n2 c2)) := Below.setCell (Below.setCell (below_box Z2.gb) (by simp) _) (by simp) _
    have HOE0 : OwnE ((w2.setCell ⟨w.heap.size + 1, 0, none⟩ (.int .i64 ((wasL M l true).length : Int))).setCell ⟨w.heap.size + 1, 1, none⟩ (.slice A2 n2 c2)) (w.heap.size + 2) (.slice A2 n2 c2) (stayE es l true) := own_set2 (row_weaken ownE (by omega)) (by omega)
    have HOI0 : OwnI ((w2.setCell ⟨w.heap.size + 1, 0, none⟩ (.int .i64 ((wasL M l true).length : Int))).setCell ⟨w.heap.size + 1, 1, none⟩ (.slice A2 n2 c2)) (w.heap.size + 2) (.slice A3 n3 c3) (wasL M l true) := own_set2 (row_weaken ownI (by omega)) (by omega)
    have HEND := Lib.hid (((Below.alloc (Below.refl _ _) (Nat.le_refl _) (gcells (wasL M l true).length A2 n2 c2)).block _ (by have := HBEL0.size; have := Z2.size; simp [World.setCell]; omega)).trans HEND0)
    have HBEL := Lib.hid (below_after HBEL0 HBEL0.size (Below.alloc (Below.refl _ _) (Nat.le_refl _) (gcells (wasL M l true).length A2 n2 c2)))
    have HOE := Lib.hid (own_alloc HOE0 (gcells (wasL M l true).length A2 n2 c2))
    have HOI := Lib.hid (own_alloc HOI0 (gcells (wasL M l true).length A2 n2 c2))
    have HS2 : Hid (w.heap.size + 2 ≤ w2.heap.size) := by have := hb2.size; unfold Hid; omega
    have hs2 : w.heap.size + 1 < w2.heap.size := by have := HS2.out; omega
    clear Z2 hb2 ownE ownI hzz HEND0 HBEL0 HOE0 HOI0
    rw [show (sel (fun j => decide ((j : Int) ∈ l) == true) M) = wasL M l true from rfl]
    generalize hLL : ((wasL M l true).length : Int) = LL at *
    have HLL := Lib.hid hLL
    clear hLL
    go_wp2_with fail
    (try simp only [Exit.inBlock, Exit.then])
    refine bodyPost_ret (Go.Proofs.YtnldfjoadmehcaaW.PrintWords.results_ctt rfl _ _ (w.heap.size + 1) 26 #[.int .i64 LL, .slice A2 n2 c2] (0, 0) _ rfl HEND.out Try.underlying26 rfl (by kernel_rfl)) rfl ?_
    rw [hP.out]
    refine ⟨.slice A2 n2 c2, .slice A3 n3 c3, ?_, HOE.out, HOI.out, HBEL.out⟩
    rfl
  · have hP : Hid (keepR N es l true = (0, [], [], namedE N es l)) := by unfold Hid keepR; rw [if_neg hp]
    have hp2 : (namedE N es l == 0) = false := by simpa using hp
    have hp3 : (namedE N es l != 0) = true := by simpa using hp
    clear hp
    go_enter Try.func19, Try.ntmps19
    go_wp2_with fail
    refine hnm.mono ?_
    rintro e w1 ⟨v1, rfl, hb1, -⟩
    have z1 : GZ w N A n c w1 := GZ.later HZ0.out hb1
    obtain ⟨r0, r1, r2, r3⟩ := GZ.res z1
    have HEND : Hid (((w1.setCell ⟨w.heap.size + 1, 0, none⟩ (.int .i64 0)).setCell ⟨w.heap.size + 1, 1, none⟩ (.slice none 0 0)).heap[w.heap.size + 1]? = some (gcells 0 none 0 0)) := Go.Proofs.YtnldfjoadmehcaaW.PrintWords.blk_put (Go.Proofs.YtnldfjoadmehcaaW.PrintWords.blk_put (GZ.blk z1) 0 _ rfl) 1 _ rfl
    have HBEL : Hid (Below w.heap.size w ((w1.setCell ⟨w.heap.size + 1, 0, none⟩ (.int .i64 0)).setCell ⟨w.heap.size + 1, 1, none⟩ (.slice none 0 0))) := Below.setCell (Below.setCell (below_box z1.gb) (by simp) _) (by simp) _
    generalize hE : namedE N es l = E at *
    clear hE z1 hb1
    go_wp2_with fail
    (try simp only [Exit.inBlock, Exit.then])
    refine bodyPost_ret (Go.Proofs.YtnldfjoadmehcaaW.PrintWords.results_ctt rfl _ _ (w.heap.size + 1) 26 #[.int .i64 0, .slice none 0 0] (0, 0) _ rfl HEND.out Try.underlying26 rfl (by kernel_rfl)) rfl ?_
    rw [hP.out]
    exact ⟨_, _, rfl, OwnE.nil _ _, World.ownsRow_nil _ _ _ _, HBEL.out⟩

set_option maxHeartbeats 4000000 in
set_option maxRecDepth 100000 in
theorem without_any {A B : Option Addr} {n c m d : Nat} {es : List Ed} {l : List Int} (N : Int) (w : World) (h : ReadE w A n es) (hl : ReadI w B m l) :
    Calls Try.prog 24 #[.agg #[.int .i64 N, .slice A n c], .slice B m d] w (KeepQ (keepR N es l false) w) := by
  have hz0 : GZ w N A n c ((w.alloc (gcells N A n c)).alloc (gcells 0 none 0 0)) := Below.refl _ _
  have HZ0 := Lib.hid hz0
  have HL := Lib.hid (List.take_of_length_le (l := l) (i := m) (by have := hl.1; omega))
  have hnm := named_any (c := c) (d := d) N _ (h.below (below_box hz0.gb)) (hl.below (below_box hz0.gb))
  clear hz0
  by_cases hp : namedE N es l = 0
  · have hP : Hid (keepR N es l false = (((wasL N l false).length : Int), stayE es l false, wasL N l false, 0)) := by unfold Hid keepR; rw [if_pos hp]
    have HP := Lib.hid hp
    have HRB : Hid (rightB N es = true) := by
      unfold Hid
      by_cases hr : rightB N es = false
      · unfold namedE at hp
        rw [if_pos hr] at hp
        exact absurd hp (by decide)
      · simpa using hr
    obtain ⟨M, rfl⟩ : ∃ M : Nat, N = M := ⟨N.toNat, by have := (rightB_iff.1 HRB.out).1; omega⟩
    clear hp
    go_enter Try.func24, Try.ntmps24
    go_wp2_with fail
    refine hnm.mono ?_
    rintro e w1 ⟨v1, rfl, hb1, hok⟩
    obtain ⟨g1, hg1, rfl, hrow⟩ := hok HP.out
    rw [HP.out]
    have z1 : GZ w M A n c w1 := GZ.later HZ0.out hb1
    obtain ⟨g0, g1'⟩ := gbox z1.gb
    obtain ⟨r0, r1, r2, r3⟩ := GZ.res z1
    have hrow2 : RowF w1 g1 4 M (fun j => .bool (decide ((j : Int) ∈ l))) := hrow.congr fun j hj => by unfold isIn; rw [HL.out]
    have hk := kept_any (c := c) false w1 (h.below (below_box z1.gb)) HRB.out hrow2
    have hzz := z1.size
    have Z1 := Lib.hid z1
    clear hb1 hok hrow hrow2 z1 hnm
    simp only [Int.toNat_natCast]
    go_wp2_with fail
    refine hk.mono ?_
    rintro e w2 ⟨v, u, rfl, ownE, ownI, hb2⟩
    obtain ⟨A2, n2, c2, rfl⟩ := OwnE.shape ownE
    obtain ⟨A3, n3, c3, rfl⟩ := OwnI.shape ownI
    have Z2 : GZ w M A n c w2 := Z1.out.later hb2
    obtain ⟨r20, r21, r22, r23⟩ := GZ.res Z2
    have HEND0 : ((w2.setCell ⟨w.heap.size + 1, 0, none⟩ (.int .i64 ((wasL M l false).length : Int))).setCell ⟨w.heap.size + 1, 1, none⟩ (.slice A2 n2 c2)).heap[w.heap.size + 1]? = some (.cells #[.int .i64 ((wasL M l false).length : Int), .slice A2 n2 c2] 26 (0, 0)) :=
      Go.Proofs.YtnldfjoadmehcaaW.PrintWords.blk_put (cs := #[.int .i64 ((wasL M l false).length : Int), .slice none 0 0]) (Go.Proofs.YtnldfjoadmehcaaW.PrintWords.blk_put (cs := #[.int .i64 0, .slice none 0 0]) Z2.blk 0 _ rfl) 1 _ rfl
    have HBEL0 : Below w.heap.size w ((w2.setCell ⟨w.heap.size + 1, 0, none⟩ (.int .i64 ((wasL M l false).length : Int))).setCell ⟨w.heap.size + 1, 1, none⟩ (.slice A2 n2 c2)) := Below.setCell (Below.setCell (below_box Z2.gb) (by simp) _) (by simp) _
    have HOE0 : OwnE ((w2.setCell ⟨w.heap.size + 1, 0, none⟩ (.int .i64 ((wasL M l false).length : Int))).setCell ⟨w.heap.size + 1, 1, none⟩ (.slice A2 n2 c2)) (w.heap.size + 2) (.slice A2 n2 c2) (stayE es l false) := own_set2 (row_weaken ownE (by omega)) (by omega)
    have HOI0 : OwnI ((w2.setCell ⟨w.heap.size + 1, 0, none⟩ (.int .i64 ((wasL M l false).length : Int))).setCell ⟨w.heap.size + 1, 1, none⟩ (.slice A2 n2 c2)) (w.heap.size + 2) (.slice A3 n3 c3) (wasL M l false) := own_set2 (row_weaken ownI (by omega)) (by omega)
    have HEND := Lib.hid (((Below.alloc (Below.refl _ _) (Nat.le_refl _) (gcells (wasL M l false).length A2 n2 c2)).block _ (by have := HBEL0.size; have := Z2.size; simp [World.setCell]; omega)).trans HEND0)
    have HBEL := Lib.hid (below_after HBEL0 HBEL0.size (Below.alloc (Below.refl _ _) (Nat.le_refl _) (gcells (wasL M l false).length A2 n2 c2)))
    have HOE := Lib.hid (own_alloc HOE0 (gcells (wasL M l false).length A2 n2 c2))
    have HOI := Lib.hid (own_alloc HOI0 (gcells (wasL M l false).length A2 n2 c2))
    have HS2 : Hid (w.heap.size + 2 ≤ w2.heap.size) := by have := hb2.size; unfold Hid; omega
    have hs2 : w.heap.size + 1 < w2.heap.size := by have := HS2.out; omega
    clear Z2 hb2 ownE ownI hzz HEND0 HBEL0 HOE0 HOI0
    rw [show (sel (fun j => decide ((j : Int) ∈ l) == false) M) = wasL M l false from rfl]
    generalize hLL : ((wasL M l false).length : Int) = LL at *
    have HLL := Lib.hid hLL
    clear hLL
    go_wp2_with fail
    (try simp only [Exit.inBlock, Exit.then])
    refine bodyPost_ret (Go.Proofs.YtnldfjoadmehcaaW.PrintWords.results_ctt rfl _ _ (w.heap.size + 1) 26 #[.int .i64 LL, .slice A2 n2 c2] (0, 0) _ rfl HEND.out Try.underlying26 rfl (by kernel_rfl)) rfl ?_
    rw [hP.out]
    refine ⟨.slice A2 n2 c2, .slice A3 n3 c3, ?_, HOE.out, HOI.out, HBEL.out⟩
    rfl
  · have hP : Hid (keepR N es l false = (0, [], [], namedE N es l)) := by unfold Hid keepR; rw [if_neg hp]
    have hp2 : (namedE N es l == 0) = false := by simpa using hp
    have hp3 : (namedE N es l != 0) = true := by simpa using hp
    clear hp
    go_enter Try.func24, Try.ntmps24
    go_wp2_with fail
    refine hnm.mono ?_
    rintro e w1 ⟨v1, rfl, hb1, -⟩
    have z1 : GZ w N A n c w1 := GZ.later HZ0.out hb1
    obtain ⟨r0, r1, r2, r3⟩ := GZ.res z1
    have HEND : Hid (((w1.setCell ⟨w.heap.size + 1, 0, none⟩ (.int .i64 0)).setCell ⟨w.heap.size + 1, 1, none⟩ (.slice none 0 0)).heap[w.heap.size + 1]? = some (gcells 0 none 0 0)) := Go.Proofs.YtnldfjoadmehcaaW.PrintWords.blk_put (Go.Proofs.YtnldfjoadmehcaaW.PrintWords.blk_put (GZ.blk z1) 0 _ rfl) 1 _ rfl
    have HBEL : Hid (Below w.heap.size w ((w1.setCell ⟨w.heap.size + 1, 0, none⟩ (.int .i64 0)).setCell ⟨w.heap.size + 1, 1, none⟩ (.slice none 0 0))) := Below.setCell (Below.setCell (below_box z1.gb) (by simp) _) (by simp) _
    generalize hE : namedE N es l = E at *
    clear hE z1 hb1
    go_wp2_with fail
    (try simp only [Exit.inBlock, Exit.then])
    refine bodyPost_ret (Go.Proofs.YtnldfjoadmehcaaW.PrintWords.results_ctt rfl _ _ (w.heap.size + 1) 26 #[.int .i64 0, .slice none 0 0] (0, 0) _ rfl HEND.out Try.underlying26 rfl (by kernel_rfl)) rfl ?_
    rw [hP.out]
    exact ⟨_, _, rfl, OwnE.nil _ _, World.ownsRow_nil _ _ _ _, HBEL.out⟩

end Go.Proofs.Ytnldfjoadmehcaa
