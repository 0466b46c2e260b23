/- Two graphs side by side: their first matching, plainly; the walk of play.Beside. -/
import Derived.Test.YtnldfjoadmehcaaGreedyPure
import Derived.Test.YtnldfjoadmehcaaMateRow
import Derived.Test.YtnldfjoadmehcaaSubPure
set_option linter.unusedVariables false
set_option linter.unusedSimpArgs false
namespace Go.Proofs.Ytnldfjoadmehcaa
open Go.RowKit

/- Two graphs side by side, and their first matching, plainly. -/
def shE (N : Int) (fs : List Ed) : List Ed := fs.map fun e => (e.1 + N, e.2 + N)
/-- The edges of two graphs side by side. -/
def besE (N : Int) (es fs : List Ed) : List Ed := es ++ shE N fs
theorem shE_length (N : Int) (fs : List Ed) : (shE N fs).length = fs.length := by simp [shE]
theorem ge_app (xs ys : List Ed) (j : Nat) : ge (xs ++ ys) j = if j < xs.length then ge xs j else ge ys (j - xs.length) := by
  unfold ge
  simp only [List.getD_eq_getElem?_getD, List.getElem?_append]
  split <;> rfl

theorem bes_rise {N M : Nat} {es fs : List Ed} (h : Rise N es) (k : Rise M fs) : Rise ((N : Int) + M) (besE N es fs) := by
  refine ⟨fun e he => ?_, ?_⟩
  · unfold besE shE at he
    simp only [List.mem_append, List.mem_map] at he
    rcases he with he | ⟨f, hf, rfl⟩
    · have := h.1 _ he
      unfold edgeOk at this ⊢
      simp at this ⊢
      omega
    · have := k.1 _ hf
      unfold edgeOk at this ⊢
      simp at this ⊢
      omega
  · unfold besE shE
    rw [List.pairwise_append, List.pairwise_map]
    refine ⟨h.2, k.2.imp fun {a b} q => ?_, fun a ha b hb => ?_⟩
    · rw [ahead_iff] at *
      simp only []
      omega
    · simp only [List.mem_map] at hb
      obtain ⟨f, hf, rfl⟩ := hb
      have h1 := h.1 _ ha
      have h2 := k.1 _ hf
      unfold edgeOk at h1 h2
      simp at h1 h2
      rw [ahead_iff]
      simp only []
      omega
theorem bes_right {N M : Nat} {es fs : List Ed} (h : rightB N es = true) (k : rightB M fs = true) (hn : N + M ≤ 4096) (hl : es.length + fs.length ≤ 65536) : rightB ((N : Int) + M) (besE N es fs) = true := by
  obtain ⟨-, -, -, h4⟩ := rightB_iff.1 h
  obtain ⟨-, -, -, k4⟩ := rightB_iff.1 k
  exact rightB_iff.2 ⟨by omega, by omega, by unfold besE; rw [List.length_append, shE_length]; exact hl, bes_rise h4 k4⟩

theorem near_left {N M : Nat} {es fs : List Ed} (h : Rise N es) (k : Rise M fs) {v : Nat} (hv : v < N) : nearV (besE N es fs) v = nearV es v := by
  have e1 : (shE N fs).filter (fun e => e.2 == (v : Int)) = [] := by
    rw [List.filter_eq_nil_iff]
    intro e he
    unfold shE at he
    simp only [List.mem_map] at he
    obtain ⟨f, hf, rfl⟩ := he
    have := k.1 _ hf
    unfold edgeOk at this
    simp at this ⊢
    omega
  have e2 : (shE N fs).filter (fun e => e.1 == (v : Int)) = [] := by
    rw [List.filter_eq_nil_iff]
    intro e he
    unfold shE at he
    simp only [List.mem_map] at he
    obtain ⟨f, hf, rfl⟩ := he
    have := k.1 _ hf
    unfold edgeOk at this
    simp at this ⊢
    omega
  unfold nearV lowsE highsE besE
  simp only [List.filter_append, List.map_append, e1, e2, List.map_nil, List.append_nil]
theorem near_right {N M : Nat} {es fs : List Ed} (h : Rise N es) (k : Rise M fs) (u : Nat) : nearV (besE N es fs) ((N : Int) + u) = (nearV fs u).map (· + (N : Int)) := by
  have e1 : es.filter (fun e => e.2 == ((N : Int) + u)) = [] := by
    rw [List.filter_eq_nil_iff]
    intro e he
    have := h.1 _ he
    unfold edgeOk at this
    simp at this ⊢
    omega
  have e2 : es.filter (fun e => e.1 == ((N : Int) + u)) = [] := by
    rw [List.filter_eq_nil_iff]
    intro e he
    have := h.1 _ he
    unfold edgeOk at this
    simp at this ⊢
    omega
  have f1 : (shE N fs).filter (fun e => e.2 == ((N : Int) + u)) = shE N (fs.filter fun e => e.2 == (u : Int)) := by
    unfold shE
    rw [List.filter_map]
    congr 1
    refine List.filter_congr fun e _ => ?_
    rw [Bool.eq_iff_iff]
    simp
    omega
  have f2 : (shE N fs).filter (fun e => e.1 == ((N : Int) + u)) = shE N (fs.filter fun e => e.1 == (u : Int)) := by
    unfold shE
    rw [List.filter_map]
    congr 1
    refine List.filter_congr fun e _ => ?_
    rw [Bool.eq_iff_iff]
    simp
    omega
  unfold nearV lowsE highsE besE
  simp only [List.filter_append, List.map_append, e1, e2, f1, f2, List.map_nil, List.nil_append]
  unfold shE
  simp [List.map_map, Function.comp_def]

theorem scan_left {ms t xs : List Int} (hin : ∀ x ∈ xs, 0 ≤ x ∧ x < ms.length) : ∀ d k, k + d ≤ xs.length → scanM (ms ++ t) xs d k = scanM ms xs d k
  | 0, k, _ => rfl
  | d + 1, k, h => by
    have h1 := hin _ (gi_mem (xs := xs) (a := k) (by omega))
    rw [scanM, scanM, gi_app, if_pos (show (gi xs k).toNat < ms.length by omega), scan_left hin d (k + 1) (by omega)]
theorem step_left {ms t l : List Int} {v : Nat} (hin : ∀ x ∈ l, 0 ≤ x ∧ x < ms.length) (hv : v < ms.length) : stepF l v (ms ++ t) = stepF l v ms ++ t := by
  unfold stepF
  rw [gi_app, if_pos hv, scan_left hin _ _ (by omega)]
  by_cases h1 : gi ms v < 0
  · rw [if_pos h1, if_pos h1]
    rcases scan_spec ms l l.length 0 with ⟨h2, h3⟩ | ⟨i, h2, h3, h4, h5⟩
    · rw [h2, if_neg (by omega), if_neg (by omega)]
    · rw [h2, if_pos (by omega), if_pos (by omega), Int.toNat_natCast]
      have h1 := hin _ (gi_mem (xs := l) (a := i) (by omega))
      rw [List.set_append_left _ _ hv, List.set_append_left _ _ (by simp; omega)]
  · rw [if_neg h1, if_neg h1]

def shM (N : Int) (x : Int) : Int := if x < 0 then -1 else x + N
theorem gi_map_sh {N : Int} {ms : List Int} {j : Nat} (h : j < ms.length) : gi (ms.map (shM N)) j = shM N (gi ms j) := by
  simp [gi, List.getD_eq_getElem?_getD, h]
theorem gi_map_add {N : Int} {ms : List Int} {j : Nat} (h : j < ms.length) : gi (ms.map (· + N)) j = gi ms j + N := by
  simp [gi, List.getD_eq_getElem?_getD, h]
theorem sh_neg {N x : Int} (hN : 0 ≤ N) : shM N x < 0 ↔ x < 0 := by
  unfold shM
  split <;> omega
theorem scan_right {N : Nat} {hd ms xs : List Int} (hl : hd.length = N) (hin : ∀ x ∈ xs, 0 ≤ x ∧ x < ms.length) : ∀ d k, k + d ≤ xs.length → scanM (hd ++ ms.map (shM N)) (xs.map (· + (N : Int))) d k = scanM ms xs d k
  | 0, k, _ => rfl
  | d + 1, k, h => by
    have h1 := hin _ (gi_mem (xs := xs) (a := k) (by omega))
    have e : gi (hd ++ ms.map (shM N)) (gi xs k + (N : Int)).toNat = shM N (gi ms (gi xs k).toNat) := by
      rw [gi_app, if_neg (by omega), ← gi_map_sh (by omega)]
      congr 1
      omega
    rw [scanM, scanM, gi_map_add (by omega), e, scan_right hl hin d (k + 1) (by omega)]
    by_cases q : gi ms (gi xs k).toNat < 0
    · rw [if_pos ((sh_neg (by omega)).2 q), if_pos q]
    · rw [if_neg fun z => q ((sh_neg (by omega)).1 z), if_neg q]
theorem step_right {N : Nat} {hd ms l : List Int} {u : Nat} (hl : hd.length = N) (hin : ∀ x ∈ l, 0 ≤ x ∧ x < ms.length) (hu : u < ms.length) :
    stepF (l.map (· + (N : Int))) (N + u) (hd ++ ms.map (shM N)) = hd ++ (stepF l u ms).map (shM N) := by
  have e0 : gi (hd ++ ms.map (shM N)) (N + u) = shM N (gi ms u) := by
    rw [gi_app, if_neg (by omega), ← gi_map_sh hu]
    congr 1
    omega
  unfold stepF
  rw [e0, List.length_map, scan_right hl hin _ _ (by omega)]
  by_cases h1 : gi ms u < 0
  · rw [if_pos h1, if_pos ((sh_neg (by omega)).2 h1)]
    rcases scan_spec ms l l.length 0 with ⟨h2, h3⟩ | ⟨i, h2, h3, h4, h5⟩
    · rw [h2, if_neg (by omega), if_neg (by omega)]
    · rw [h2, if_pos (by omega), if_pos (by omega), Int.toNat_natCast, gi_map_add (by omega)]
      have h1 := hin _ (gi_mem (xs := l) (a := i) (by omega))
      rw [List.set_append_right _ _ (by omega), List.set_append_right _ _ (by omega), hl]
      congr 1
      rw [List.map_set, List.map_set, show N + u - N = u from by omega, show (gi l i + (N : Int)).toNat - N = (gi l i).toNat from by omega]
      congr 1
      · congr 1
        unfold shM
        rw [if_neg (by omega)]
      · unfold shM
        rw [if_neg (by omega)]
        push_cast
        omega
  · rw [if_neg h1, if_neg fun z => h1 ((sh_neg (by omega)).1 z)]

theorem first_left {N M : Nat} {es fs : List Ed} (h : Rise N es) (k : Rise M fs) : ∀ v, v ≤ N → firstTo (N + M) (besE N es fs) v = firstTo N es v ++ List.replicate M (-1)
  | 0, _ => by simp [firstTo]
  | v + 1, hv => by
    rw [firstTo, firstTo, first_left h k v (by omega), near_left h k (by omega)]
    exact step_left (fun x hx => by rw [firstTo_length]; have := near_in h hx; omega) (by rw [firstTo_length]; omega)
theorem first_right {N M : Nat} {es fs : List Ed} (h : Rise N es) (k : Rise M fs) : ∀ u, u ≤ M → firstTo (N + M) (besE N es fs) (N + u) = firstTo N es N ++ (firstTo M fs u).map (shM N)
  | 0, _ => by
    rw [Nat.add_zero, first_left h k N (Nat.le_refl _)]
    simp [firstTo, shM]
  | u + 1, hu => by
    rw [← Nat.add_assoc, firstTo, first_right h k u (by omega), firstTo]
    push_cast
    rw [near_right h k u]
    exact step_right (firstTo_length _ _ _) (fun x hx => by rw [firstTo_length]; have := near_in k hx; omega) (by rw [firstTo_length]; omega)
theorem first_beside {N M : Nat} {es fs : List Ed} (h : rightB N es = true) (k : rightB M fs = true) (hn : N + M ≤ 4096) (hl : es.length + fs.length ≤ 65536) :
    firstL ((N : Int) + M) (besE N es fs) = firstL N es ++ (firstL M fs).map (shM N) := by
  unfold firstL
  rw [bes_right h k hn hl, h, k, if_pos rfl, if_pos rfl, if_pos rfl, show ((N : Int) + M).toNat = N + M from by omega, Int.toNat_natCast, Int.toNat_natCast]
  exact first_right (rightB_iff.1 h).2.2.2 (rightB_iff.1 k).2.2.2 M (Nat.le_refl _)

/- The walk of play.Beside. -/
/-- Edges are collected in a graph's variable at P; what lies below base is as it was in w3. -/
def BO (B : Nat) (w3 : World) (P : Nat) (m : Int) (v : Value) (hs : List Ed) (W : World) : Prop :=
  Below B w3 W ∧ B ≤ W.heap.size ∧ B ≤ P ∧ W.heap[P]? = some (.cells #[.int .i64 m, v] 26 (0, 0)) ∧ OwnE W B v hs ∧ v.ownBlock ≠ some P
section
variable {B P : Nat} {w3 W W1 : World} {m : Int} {v : Value} {hs : List Ed}
theorem BO.later (h : BO B w3 P m v hs W) (g : Below W.heap.size W W1) : BO B w3 P m v hs W1 :=
  ⟨below_after h.1 h.2.1 g, Nat.le_trans h.2.1 g.size, h.2.2.1, blk_later h.2.2.2.1 g, row_below h.2.2.2.2.1 g, h.2.2.2.2.2⟩
theorem BO.cells (h : BO B w3 P m v hs W) : W.cell? ⟨P, 0, none⟩ = some (.int .i64 m) ∧ W.cell? ⟨P, 1, none⟩ = some v ∧ W.frozen? ⟨P, 0, none⟩ = false ∧ W.frozen? ⟨P, 1, none⟩ = false := blk_cells h.2.2.2.1
theorem BO.lt (h : BO B w3 P m v hs W) : P < W.heap.size := blk_lt h.2.2.2.1
theorem BO.grow (h : BO B w3 P m v hs W) (g : W.grownBy W1 v.ownBlock) : Below B w3 W1 ∧ W1.heap[P]? = some (.cells #[.int .i64 m, v] 26 (0, 0)) :=
  ⟨Below.grown h.1 g h.2.1 (fun k hk => row_base h.2.2.2.2.1 k hk), (g.block P h.lt (fun e => h.2.2.2.2.2 e.symm)).trans h.2.2.2.1⟩
theorem BO.store {v1 : Value} {hs1 : List Ed} (h : BO B w3 P m v hs W) (g : W.grownBy W1 v.ownBlock) (o : OwnE W1 B v1 hs1) (hat : v1.ownBlock = v.ownBlock ∨ v1.ownBlock = some W.heap.size) :
    BO B w3 P m v1 hs1 (W1.setCell ⟨P, 1, none⟩ v1) := by
  obtain ⟨h1, h2⟩ := h.grow g
  have hne : v1.ownBlock ≠ some P := by
    rcases hat with q | q
    · rw [q]
      exact h.2.2.2.2.2
    · rw [q]
      have := h.lt
      intro e
      injection e with e
      omega
  refine ⟨Below.setCell h1 h.2.2.1 _, ?_, h.2.2.1, Go.Proofs.YtnldfjoadmehcaaW.PrintWords.blk_put h2 1 _ rfl, ?_, hne⟩
  · have := h.2.1
    have := g.size
    simp [World.setCell]
    omega
  · refine World.ownsRow.kept (row := some P) o (grown_set _ _ _ _) ?_
    cases q : v1.ownBlock
    · exact .inl rfl
    · exact .inr (by rw [← q]; exact hne)
end

set_option maxHeartbeats 16000000 in
set_option maxRecDepth 100000 in
theorem pbes_any {A C : Option Addr} {n c k kc N K : Nat} {es fs : List Ed} (w : World) (h : ReadE w A n es) (hs : ReadE w C k fs) (hR : rightB N es = true) (hK : rightB K fs = true) :
    Calls Try.prog 44 #[.agg #[.int .i64 N, .slice A n c], .agg #[.int .i64 K, .slice C k kc]] w fun e w' =>
      ∃ B l, e = .returned (.agg #[.int .i64 ((N : Int) + K), .slice B (besE N es fs).length l]) ∧ ReadE w' B (besE N es fs).length (besE N es fs) ∧ Below w.heap.size w w' := by
  obtain ⟨r1, r2, r3, r4⟩ := rightB_iff.1 hR
  obtain ⟨s1, s2, s3, s4⟩ := rightB_iff.1 hK
  have hN : N ≤ 4096 := by omega
  have hKK : K ≤ 4096 := by omega
  have HE := Lib.hid h
  have HS := Lib.hid hs
  have hn6 : n ≤ 65536 := by rw [← h.1]; exact r3
  have hk6 : k ≤ 65536 := by rw [← hs.1]; exact s3
  have HFI := Lib.hid s4
  have HKL := Lib.hid hs.1
  have hbx := (Below.refl (w.heap.size + 3) (((w.alloc (gcells N A n c)).alloc (gcells K C k kc)).alloc (gcells 0 none 0 0)))
  have g1 : (((w.alloc (gcells N A n c)).alloc (gcells K C k kc)).alloc (gcells 0 none 0 0)).heap[w.heap.size]? = some (gcells N A n c) := by
    rw [heap_alloc_old _ _ (by simp <;> omega), heap_alloc_old _ _ (by simp <;> omega)]
    exact heap_alloc_new _ _
  have g2 : (((w.alloc (gcells N A n c)).alloc (gcells K C k kc)).alloc (gcells 0 none 0 0)).heap[w.heap.size + 1]? = some (gcells K C k kc) := by
    rw [heap_alloc_old _ _ (by simp <;> omega)]
    have := heap_alloc_new (w.alloc (gcells N A n c)) (gcells K C k kc)
    simpa using this
  have g3 : (((w.alloc (gcells N A n c)).alloc (gcells K C k kc)).alloc (gcells 0 none 0 0)).heap[w.heap.size + 2]? = some (gcells 0 none 0 0) := by
    have := heap_alloc_new ((w.alloc (gcells N A n c)).alloc (gcells K C k kc)) (gcells 0 none 0 0)
    simpa using this
  have hsz : (((w.alloc (gcells N A n c)).alloc (gcells K C k kc)).alloc (gcells 0 none 0 0)).heap.size = w.heap.size + 3 := by simp
  have hb3 : Below w.heap.size w (((w.alloc (gcells N A n c)).alloc (gcells K C k kc)).alloc (gcells 0 none 0 0)) := bel_trans (bel_trans (bel_alloc _ _) (bel_alloc _ _)) (bel_alloc _ _)
  have HG := Lib.hid (And.intro g1 (And.intro g2 g3))
  have HSZ := Lib.hid hsz
  have HB3 := Lib.hid hb3
  clear h hs hR hK r1 r2 r3 r4 s1 s2 s3 s4 g1 g2 g3 hsz hb3 hbx
  go_enter Try.func44, Try.ntmps44
  go_wp2_with fail
  generalize ((w.alloc (gcells N A n c)).alloc (gcells K C k kc)).alloc (gcells 0 none 0 0) = w3 at *
  have HC : Hid ((w3.cell? ⟨w.heap.size, 0, none⟩ = some (.int .i64 N) ∧ w3.cell? ⟨w.heap.size, 1, none⟩ = some (.slice A n c)) ∧ (w3.cell? ⟨w.heap.size + 1, 0, none⟩ = some (.int .i64 K) ∧ w3.cell? ⟨w.heap.size + 1, 1, none⟩ = some (.slice C k kc))) :=
    ⟨⟨(cell_blk HG.out.1 0).trans rfl, (cell_blk HG.out.1 1).trans rfl⟩, ⟨(cell_blk HG.out.2.1 0).trans rfl, (cell_blk HG.out.2.1 1).trans rfl⟩⟩
  have HS1 : Hid (w3.cell? ⟨w.heap.size, 0, none⟩ = some (.int .i64 N) ∧ w3.cell? ⟨w.heap.size, 1, none⟩ = some (.slice A n c) ∧ w3.cell? ⟨w.heap.size + 1, 0, none⟩ = some (.int .i64 K)) := ⟨HC.out.1.1, HC.out.1.2, HC.out.2.1⟩
  have hsum : IntKind.i64.wrap ((N : Int) + (K : Int)) = (N : Int) + (K : Int) := by rw [IntKind.wrap_i64]; omega
  have HE3 := Lib.hid (HE.out.below HB3.out)
  have HS3 := Lib.hid (HS.out.below HB3.out)
  have BX : Hid (∀ P v hs W, BO (w.heap.size + 3) w3 P ((N : Int) + K) v hs W → W.cell? ⟨w.heap.size, 0, none⟩ = some (.int .i64 (N : Int)) ∧ W.cell? ⟨w.heap.size, 1, none⟩ = some (.slice A n c) ∧ W.cell? ⟨w.heap.size + 1, 0, none⟩ = some (.int .i64 (K : Int)) ∧ W.cell? ⟨w.heap.size + 1, 1, none⟩ = some (.slice C k kc)) := fun P v hs W hb =>
    ⟨(hb.1.cell (p := ⟨w.heap.size, 0, none⟩) (by show w.heap.size < w.heap.size + 3; omega)).trans HC.out.1.1, (hb.1.cell (p := ⟨w.heap.size, 1, none⟩) (by show w.heap.size < w.heap.size + 3; omega)).trans HC.out.1.2,
      (hb.1.cell (p := ⟨w.heap.size + 1, 0, none⟩) (by show w.heap.size + 1 < w.heap.size + 3; omega)).trans HC.out.2.1, (hb.1.cell (p := ⟨w.heap.size + 1, 1, none⟩) (by show w.heap.size + 1 < w.heap.size + 3; omega)).trans HC.out.2.2⟩
  have BR : Hid (∀ P v hs {W}, BO (w.heap.size + 3) w3 P ((N : Int) + K) v hs W → RW w3 W) := fun P v hs W hb => by
    unfold RW
    rw [HSZ.out]
    exact hb.1
  go_region_held3 (fun w' => w'.cell? ⟨w.heap.size, 0, none⟩ = some (.int .i64 N) ∧ w'.cell? ⟨w.heap.size, 1, none⟩ = some (.slice A n c) ∧ w'.cell? ⟨w.heap.size + 1, 0, none⟩ = some (.int .i64 K) ∧ RW w3 w')
    (first | assumption | exact RW.three HS1.out (RW.refl w3).drew | exact RW.three HS1.out (RW.grown (And.right (And.right (And.right (by assumption)))) g11 (by intro k hk; simp [Value.ownBlock] at hk)) | exact RW.three HS1.out (RW.alloc (And.right (And.right (And.right (by assumption)))) _) | exact RW.three HS1.out (RW.alloc (RW.refl w3) _).drew | exact RW.three HS1.out (RW.alloc rw11 _) | exact RW.three HS1.out (RW.set2 rw11) | exact RW.three HS1.out (RW.set2 (And.right (And.right (And.right (by assumption))))) | fail)
    (first
      | (refine step_appE (w.heap.size + 3) (by rfl) _ _ (by rfl) (.slice none 0 0) [] es (by rfl) (OwnE.nil _ _) (by rw [← HSZ.out]; exact Below.size (And.right (And.right (And.right (by assumption))))) A n c (by rfl) (HE3.out.below (And.right (And.right (And.right (by assumption))))) (by simp; omega) ?_; intro v1 w11 own1 g11 hat1; rw [List.nil_append] at own1; obtain ⟨A1, nn1, c1, rfl⟩ := OwnE.shape own1; have rw11 : RW w3 w11 := RW.grown (And.right (And.right (And.right (by assumption)))) g11 (by intro k hk; simp [Value.ownBlock] at hk); (try (have nb : Below (w3.alloc (gcells 0 none 0 0)).drew.heap.size (w3.alloc (gcells 0 none 0 0)).drew w11 := Below.grown (Below.refl _ _) g11 (Nat.le_refl _) (by intro k hk; simp [Value.ownBlock] at hk))); (try (have n0 := (newcells nb).1)); (try (have n1 := (newcells nb).2.1)); (try (have n2 := (newcells nb).2.2.1)); (try (have n3 := (newcells nb).2.2.2)))
      | fail)
  · have HBI : BO (w.heap.size + 3) w3 w11.heap.size ((N : Int) + K) (.slice A1 nn1 c1) es (w11.alloc (.cells #[.int .i64 ((N : Int) + K), .slice A1 nn1 c1] 26)) := by
      have hz := Below.size rw11
      have hb : Below (w.heap.size + 3) w3 w11 := by rw [← HSZ.out]; exact rw11
      have h9 := HSZ.out
      refine ⟨hb.alloc (by omega) _, by simp; omega, by omega, heap_alloc_new _ _, own_alloc own1 _, fun e => ?_⟩
      have := row_lt own1 _ e
      omega
    have HBO0 : Hid (BO (w.heap.size + 3) w3 w11.heap.size ((N : Int) + K) (.slice A1 nn1 c1) (es ++ shE N (fs.take 0)) (w11.alloc (.cells #[.int .i64 ((N : Int) + K), .slice A1 nn1 c1] 26))) := by
      have e : es ++ shE N (fs.take 0) = es := by simp [shE]
      rw [e]
      exact HBI
    obtain ⟨P, hP⟩ : ∃ P, P = w11.heap.size := ⟨_, rfl⟩
    obtain ⟨W0, hW0⟩ : ∃ W0, W0 = w11.alloc (.cells #[.int .i64 ((N : Int) + K), .slice A1 nn1 c1] 26) := ⟨_, rfl⟩
    rw [← hW0, ← hP] at HBO0
    rw [← hW0, ← hP]
    clear hP hW0 HBI
    (try clear n0 n1 n2 n3 nb)
    clear rw11 own1 g11 hat1
    have HPP : Hid (w.heap.size + 3 ≤ P) := HBO0.out.2.2.1
    obtain ⟨x0, x1, x2, x3⟩ := BX.out _ _ _ _ HBO0
    have HK0 := Lib.hid x3
    go_wp2_with fail
    clear x0 x1 x2 x3
    go_loopw [6] (fun i wr => ∃ (j : Nat) (v : Value), j ≤ k ∧ i = .int .i64 j ∧ Hid (BO (w.heap.size + 3) w3 P ((N : Int) + K) v (es ++ shE N (fs.take j)) wr)) (fun i _ => k - (intOf i).toNat)
    case atStart => exact ⟨0, _, Nat.zero_le _, rfl, HBO0⟩
    case round =>
      obtain ⟨j, v, hj, rfl, hbo⟩ := hrel
      obtain ⟨x0, x1, x2, x3⟩ := BX.out _ _ _ _ hbo
      obtain ⟨A2, n2, c2, rfl⟩ := OwnE.shape hbo.out.2.2.2.2.1
      by_cases hlt : j < k
      · have HLT := Lib.hid hlt
        obtain ⟨b, o, rfl, hc⟩ := (HS3.out.below (BR.out _ _ _ hbo)).2.2 (by omega)
        obtain ⟨hc1, hc2⟩ := hc j hlt
        have hke : j < fs.length := by have := HKL.out; omega
        obtain ⟨x, y, he, hxy, hyK⟩ := edge_nat (HFI.out.1 _ (show ge fs j ∈ fs by rw [ge_get hke]; exact List.getElem_mem _))
        rw [he] at hc1 hc2
        simp only [] at hc1 hc2
        have HNX : Hid (es ++ shE N (fs.take (j + 1)) = es ++ shE N (fs.take j) ++ [((x : Int) + (N : Int), (y : Int) + (N : Int))]) := by
          unfold Hid shE
          rw [takeE_succ hke, he]
          simp
        have hji : (0 : Int) ≤ (j : Int) ∧ (j : Int) < (k : Int) := by omega
        have s1 : IntKind.i64.wrap ((x : Int) + (N : Int)) = (x : Int) + (N : Int) := by rw [IntKind.wrap_i64]; omega
        have s2 : IntKind.i64.wrap ((y : Int) + (N : Int)) = (y : Int) + (N : Int) := by rw [IntKind.wrap_i64]; omega
        have HLL : Hid ((es ++ shE N (fs.take j)).length + 1 ≤ 1000000000) := by
          have := HE.out.1
          unfold Hid
          rw [List.length_append, shE_length, List.length_take]
          omega
        have HSS : Hid (wr.cell? ⟨w.heap.size, 0, none⟩ = some (.int .i64 (N : Int)) ∧ wr.cell? ⟨w.heap.size + 1, 1, none⟩ = some (.slice (some ⟨b, o, none⟩) k kc) ∧ wr.cell? ⟨b, o + j * 2, none⟩ = some (.int .i64 (x : Int)) ∧ wr.cell? ⟨b, o + j * 2 + 1, none⟩ = some (.int .i64 (y : Int))) := ⟨x0, x3, hc1, hc2⟩
        have HBD := Lib.hid (hbo.out.later (RW.refl wr).drew)
        have HBA := Lib.hid (HBD.out.later (bel_alloc wr.drew (.cells #[.int .i64 ((x : Int) + (N : Int)), .int .i64 ((y : Int) + (N : Int))] 41)))
        have HSA : Hid ((wr.drew.alloc (.cells #[.int .i64 ((x : Int) + (N : Int)), .int .i64 ((y : Int) + (N : Int))] 41)).cell? ⟨w.heap.size, 0, none⟩ = some (.int .i64 (N : Int)) ∧ (wr.drew.alloc (.cells #[.int .i64 ((x : Int) + (N : Int)), .int .i64 ((y : Int) + (N : Int))] 41)).cell? ⟨w.heap.size + 1, 1, none⟩ = some (.slice (some ⟨b, o, none⟩) k kc) ∧ (wr.drew.alloc (.cells #[.int .i64 ((x : Int) + (N : Int)), .int .i64 ((y : Int) + (N : Int))] 41)).cell? ⟨b, o + j * 2, none⟩ = some (.int .i64 (x : Int)) ∧ (wr.drew.alloc (.cells #[.int .i64 ((x : Int) + (N : Int)), .int .i64 ((y : Int) + (N : Int))] 41)).cell? ⟨b, o + j * 2 + 1, none⟩ = some (.int .i64 (y : Int))) :=
          ⟨cell_later (bel_alloc wr.drew _) HSS.out.1, cell_later (bel_alloc wr.drew _) HSS.out.2.1, cell_later (bel_alloc wr.drew _) HSS.out.2.2.1, cell_later (bel_alloc wr.drew _) HSS.out.2.2.2⟩
        have HBB : Hid (b < w.heap.size + 3) := by
          obtain ⟨b', o', e', hc'⟩ := HS3.out.2.2 (by omega)
          injection e' with e'
          injection e' with e1 e2
          subst e1
          rw [← HSZ.out]
          exact World.block_lt_of_cell? w3 _ (hc' j hlt).1
        obtain ⟨p0, p1, p2, p3⟩ := hbo.out.cells
        obtain ⟨q0, q1, q2, q3⟩ := HBA.out.cells
        have q4 := cell_later (bel_alloc wr (.cells #[.int .i64 ((x : Int) + (N : Int)), .int .i64 ((y : Int) + (N : Int))] 41)) p1
        clear hc hc1 hc2 he hke hxy hyK
        go_wp2_with fail
        clear x0 x1 x2 x3
        refine wp_region_held_drew (S := fun w' => w'.cell? ⟨w.heap.size, 0, none⟩ = some (.int .i64 (N : Int)) ∧ w'.cell? ⟨w.heap.size + 1, 1, none⟩ = some (.slice (some ⟨b, o, none⟩) k kc) ∧ w'.cell? ⟨b, o + j * 2, none⟩ = some (.int .i64 (x : Int)) ∧ w'.cell? ⟨b, o + j * 2 + 1, none⟩ = some (.int .i64 (y : Int))) (by kernel_rfl) HSS.out (fun hHeld => ?_)
        refine wpAnyH_take (i := 0) (oi := ?oiz1x0) (v := ?vz1x0) ?hiz1x0 (by kernel_rfl) (by kernel_rfl) (by kernel_rfl) ?hQz1x0 ?hyz1x0 (by assumption) ?restz1x0
        case hiz1x0 => first | (simp only [List.getElem?_toArray, List.getElem?_cons_zero, List.getElem?_cons_succ]; rfl) | rfl
        case hQz1x0 => exact fun _ _ _ h => h
        case hyz1x0 => (refine Or.inl ⟨by rfl, ?_⟩; intro w hSw; (try dsimp only at hSw); go_simp; (try with_reducible rfl))
        simp only [Act.put, List.setIfInBounds_toArray, List.set_cons_zero, List.set_cons_succ]
        refine wpAnyH_take (i := 2) (oi := ?oiz2x2) (v := ?vz2x2) ?hiz2x2 (by kernel_rfl) (by kernel_rfl) (by kernel_rfl) ?hQz2x2 ?hyz2x2 (by assumption) ?restz2x2
        case hiz2x2 => first | (simp only [List.getElem?_toArray, List.getElem?_cons_zero, List.getElem?_cons_succ]; rfl) | rfl
        case hQz2x2 => exact fun _ _ _ h => h
        case hyz2x2 => (refine Or.inl ⟨by rfl, ?_⟩; intro w hSw; (try dsimp only at hSw); go_simp; (try with_reducible rfl))
        simp only [Act.put, List.setIfInBounds_toArray, List.set_cons_zero, List.set_cons_succ]
        refine wpAnyH_take (i := 3) (oi := ?oiz3x3) (v := ?vz3x3) ?hiz3x3 (by kernel_rfl) (by kernel_rfl) (by kernel_rfl) ?hQz3x3 ?hyz3x3 (by assumption) ?restz3x3
        case hiz3x3 => first | (simp only [List.getElem?_toArray, List.getElem?_cons_zero, List.getElem?_cons_succ]; rfl) | rfl
        case hQz3x3 => exact fun _ _ _ h => h
        case hyz3x3 => (refine Or.inl ⟨by rfl, ?_⟩; intro w hSw; (try dsimp only at hSw); go_simp; (try with_reducible rfl))
        simp only [Act.put, List.setIfInBounds_toArray, List.set_cons_zero, List.set_cons_succ]
        refine wpAnyH_take (i := 4) (oi := ?oiz4x4) (v := ?vz4x4) ?hiz4x4 (by kernel_rfl) (by kernel_rfl) (by kernel_rfl) ?hQz4x4 ?hyz4x4 (by assumption) ?restz4x4
        case hiz4x4 => first | (simp only [List.getElem?_toArray, List.getElem?_cons_zero, List.getElem?_cons_succ]; rfl) | rfl
        case hQz4x4 => exact fun _ _ _ h => h
        case hyz4x4 => (refine Or.inl ⟨by rfl, ?_⟩; intro w hSw; (try dsimp only at hSw); go_simp; (try with_reducible rfl))
        simp only [Act.put, List.setIfInBounds_toArray, List.set_cons_zero, List.set_cons_succ]
        refine wpAnyH_take (i := 5) (oi := ?oiz5x5) (v := ?vz5x5) ?hiz5x5 (by kernel_rfl) (by kernel_rfl) (by kernel_rfl) ?hQz5x5 ?hyz5x5 (by assumption) ?restz5x5
        case hiz5x5 => first | (simp only [List.getElem?_toArray, List.getElem?_cons_zero, List.getElem?_cons_succ]; rfl) | rfl
        case hQz5x5 => exact fun _ _ _ h => h
        case hyz5x5 => (refine Or.inl ⟨by rfl, ?_⟩; intro w hSw; (try dsimp only at hSw); go_simp; (try with_reducible rfl))
        simp only [Act.put, List.setIfInBounds_toArray, List.set_cons_zero, List.set_cons_succ]
        refine wpAnyH_take (i := 6) (oi := ?oiz6x6) (v := ?vz6x6) ?hiz6x6 (by kernel_rfl) (by kernel_rfl) (by kernel_rfl) ?hQz6x6 ?hyz6x6 (by assumption) ?restz6x6
        case hiz6x6 => first | (simp only [List.getElem?_toArray, List.getElem?_cons_zero, List.getElem?_cons_succ]; rfl) | rfl
        case hQz6x6 => exact fun _ _ _ h => h
        case hyz6x6 => (refine Or.inl ⟨by rfl, ?_⟩; intro w hSw; (try dsimp only at hSw); go_simp; (try with_reducible rfl))
        simp only [Act.put, List.setIfInBounds_toArray, List.set_cons_zero, List.set_cons_succ]
        refine wpAnyH_take (i := 7) (oi := ?oiz7x7) (v := ?vz7x7) ?hiz7x7 (by kernel_rfl) (by kernel_rfl) (by kernel_rfl) ?hQz7x7 ?hyz7x7 (by assumption) ?restz7x7
        case hiz7x7 => first | (simp only [List.getElem?_toArray, List.getElem?_cons_zero, List.getElem?_cons_succ]; rfl) | rfl
        case hQz7x7 => exact fun _ _ _ h => h
        case hyz7x7 => (refine Or.inl ⟨by rfl, ?_⟩; intro w hSw; (try dsimp only at hSw); go_simp; (try with_reducible rfl))
        simp only [Act.put, List.setIfInBounds_toArray, List.set_cons_zero, List.set_cons_succ]
        refine wpAnyH_take (i := 8) (oi := ?oiz8x8) (v := ?vz8x8) ?hiz8x8 (by kernel_rfl) (by kernel_rfl) (by kernel_rfl) ?hQz8x8 ?hyz8x8 (by assumption) ?restz8x8
        case hiz8x8 => first | (simp only [List.getElem?_toArray, List.getElem?_cons_zero, List.getElem?_cons_succ]; rfl) | rfl
        case hQz8x8 => exact fun _ _ _ h => h
        case hyz8x8 => (refine Or.inl ⟨by rfl, ?_⟩; intro w hSw; (try dsimp only at hSw); go_simp; (try with_reducible rfl))
        simp only [Act.put, List.setIfInBounds_toArray, List.set_cons_zero, List.set_cons_succ]
        refine wpAnyH_take (i := 9) (oi := ?oiz9x9) (v := ?vz9x9) ?hiz9x9 (by kernel_rfl) (by kernel_rfl) (by kernel_rfl) ?hQz9x9 ?hyz9x9 (by assumption) ?restz9x9
        case hiz9x9 => first | (simp only [List.getElem?_toArray, List.getElem?_cons_zero, List.getElem?_cons_succ]; rfl) | rfl
        case hQz9x9 => exact fun _ _ _ h => h
        case hyz9x9 => (refine Or.inl ⟨by rfl, ?_⟩; intro w hSw; (try dsimp only at hSw); go_simp; (try with_reducible rfl))
        simp only [Act.put, List.setIfInBounds_toArray, List.set_cons_zero, List.set_cons_succ]
        refine wpAnyH_take (i := 10) (oi := ?oiz10x10) (v := ?vz10x10) ?hiz10x10 (by kernel_rfl) (by kernel_rfl) (by kernel_rfl) ?hQz10x10 ?hyz10x10 (by assumption) ?restz10x10
        case hiz10x10 => first | (simp only [List.getElem?_toArray, List.getElem?_cons_zero, List.getElem?_cons_succ]; rfl) | rfl
        case hQz10x10 => exact fun _ _ _ h => h
        case hyz10x10 => (refine Or.inl ⟨by rfl, ?_⟩; intro w hSw; (try dsimp only at hSw); go_simp; (try with_reducible rfl))
        simp only [Act.put, List.setIfInBounds_toArray, List.set_cons_zero, List.set_cons_succ]
        refine wpAnyH_take (i := 11) (oi := ?oiz11x11) (v := ?vz11x11) ?hiz11x11 (by kernel_rfl) (by kernel_rfl) (by kernel_rfl) ?hQz11x11 ?hyz11x11 (by assumption) ?restz11x11
        case hiz11x11 => first | (simp only [List.getElem?_toArray, List.getElem?_cons_zero, List.getElem?_cons_succ]; rfl) | rfl
        case hQz11x11 => exact fun _ _ _ h => h
        case hyz11x11 => (refine Or.inl ⟨by rfl, ?_⟩; intro w hSw; (try dsimp only at hSw); go_simp; (try with_reducible rfl))
        simp only [Act.put, List.setIfInBounds_toArray, List.set_cons_zero, List.set_cons_succ]
        refine wpAnyH_take (i := 12) (oi := ?oiz12x12) (v := ?vz12x12) ?hiz12x12 (by kernel_rfl) (by kernel_rfl) (by kernel_rfl) ?hQz12x12 ?hyz12x12 (by assumption) ?restz12x12
        case hiz12x12 => first | (simp only [List.getElem?_toArray, List.getElem?_cons_zero, List.getElem?_cons_succ]; rfl) | rfl
        case hQz12x12 => exact fun _ _ _ h => h
        case hyz12x12 => (refine Or.inl ⟨by rfl, ?_⟩; intro w hSw; (try dsimp only at hSw); go_simp; (try with_reducible rfl))
        simp only [Act.put, List.setIfInBounds_toArray, List.set_cons_zero, List.set_cons_succ]
        refine wpAnyH_take (i := 13) (oi := ?oiz13x13) (v := ?vz13x13) ?hiz13x13 (by kernel_rfl) (by kernel_rfl) (by kernel_rfl) ?hQz13x13 ?hyz13x13 (by assumption) ?restz13x13
        case hiz13x13 => first | (simp only [List.getElem?_toArray, List.getElem?_cons_zero, List.getElem?_cons_succ]; rfl) | rfl
        case hQz13x13 => exact fun _ _ _ h => h
        case hyz13x13 => (refine Or.inl ⟨by rfl, ?_⟩; intro w hSw; (try dsimp only at hSw); go_simp; (try with_reducible rfl))
        simp only [Act.put, List.setIfInBounds_toArray, List.set_cons_zero, List.set_cons_succ]
        refine wpAnyH_take (i := 14) (oi := ?oiz14x14) (v := ?vz14x14) ?hiz14x14 (by kernel_rfl) (by kernel_rfl) (by kernel_rfl) ?hQz14x14 ?hyz14x14 (by assumption) ?restz14x14
        case hiz14x14 => first | (simp only [List.getElem?_toArray, List.getElem?_cons_zero, List.getElem?_cons_succ]; rfl) | rfl
        case hQz14x14 => exact fun _ _ _ h => h
        case hyz14x14 => (refine Or.inl ⟨by rfl, ?_⟩; intro w hSw; (try dsimp only at hSw); go_simp; (try with_reducible rfl))
        simp only [Act.put, List.setIfInBounds_toArray, List.set_cons_zero, List.set_cons_succ]
        refine wpAnyH_take (i := 15) (oi := ?oiz15x15) (v := ?vz15x15) ?hiz15x15 (by kernel_rfl) (by kernel_rfl) (by kernel_rfl) ?hQz15x15 ?hyz15x15 (by assumption) ?restz15x15
        case hiz15x15 => first | (simp only [List.getElem?_toArray, List.getElem?_cons_zero, List.getElem?_cons_succ]; rfl) | rfl
        case hQz15x15 => exact fun _ _ _ h => h
        case hyz15x15 => (refine Or.inl ⟨by rfl, ?_⟩; intro w hSw; (try dsimp only at hSw); go_simp; (try with_reducible rfl))
        simp only [Act.put, List.setIfInBounds_toArray, List.set_cons_zero, List.set_cons_succ]
        refine wpAnyH_take (i := 16) (oi := ?oiz16x16) (v := ?vz16x16) ?hiz16x16 (by kernel_rfl) (by kernel_rfl) (by kernel_rfl) ?hQz16x16 ?hyz16x16 (by assumption) ?restz16x16
        case hiz16x16 => first | (simp only [List.getElem?_toArray, List.getElem?_cons_zero, List.getElem?_cons_succ]; rfl) | rfl
        case hQz16x16 => exact fun _ _ _ h => h
        case hyz16x16 => (refine Or.inl ⟨by rfl, ?_⟩; intro w hSw; (try dsimp only at hSw); go_simp; (try with_reducible rfl))
        simp only [Act.put, List.setIfInBounds_toArray, List.set_cons_zero, List.set_cons_succ]
        refine wpAnyH_take (i := 17) (oi := ?oiz17x17) (v := ?vz17x17) ?hiz17x17 (by kernel_rfl) (by kernel_rfl) (by kernel_rfl) ?hQz17x17 ?hyz17x17 (by assumption) ?restz17x17
        case hiz17x17 => first | (simp only [List.getElem?_toArray, List.getElem?_cons_zero, List.getElem?_cons_succ]; rfl) | rfl
        case hQz17x17 => exact fun _ _ _ h => h
        case hyz17x17 => (refine Or.inl ⟨by rfl, ?_⟩; intro w hSw; (try dsimp only at hSw); go_simp; (try with_reducible rfl))
        simp only [Act.put, List.setIfInBounds_toArray, List.set_cons_zero, List.set_cons_succ]
        refine wpAnyH_take (i := 18) (oi := ?oiz18x18) (v := ?vz18x18) ?hiz18x18 (by kernel_rfl) (by kernel_rfl) (by kernel_rfl) ?hQz18x18 ?hyz18x18 (by assumption) ?restz18x18
        case hiz18x18 => first | (simp only [List.getElem?_toArray, List.getElem?_cons_zero, List.getElem?_cons_succ]; rfl) | rfl
        case hQz18x18 => exact fun _ _ _ h => h
        case hyz18x18 => (refine Or.inl ⟨by rfl, ?_⟩; intro w hSw; (try dsimp only at hSw); go_simp; (try with_reducible rfl))
        simp only [Act.put, List.setIfInBounds_toArray, List.set_cons_zero, List.set_cons_succ]
        refine wpAnyH_take (i := 19) (oi := ?oiz19x19) (v := ?vz19x19) ?hiz19x19 (by kernel_rfl) (by kernel_rfl) (by kernel_rfl) ?hQz19x19 ?hyz19x19 (by assumption) ?restz19x19
        case hiz19x19 => first | (simp only [List.getElem?_toArray, List.getElem?_cons_zero, List.getElem?_cons_succ]; rfl) | rfl
        case hQz19x19 => exact fun _ _ _ h => h
        case hyz19x19 => (refine Or.inl ⟨by rfl, ?_⟩; intro w hSw; (try dsimp only at hSw); go_simp; (try with_reducible rfl))
        simp only [Act.put, List.setIfInBounds_toArray, List.set_cons_zero, List.set_cons_succ]
        refine wpAnyH_take (i := 20) (oi := ?oiz20x20) (v := ?vz20x20) ?hiz20x20 (by kernel_rfl) (by kernel_rfl) (by kernel_rfl) ?hQz20x20 ?hyz20x20 (by assumption) ?restz20x20
        case hiz20x20 => first | (simp only [List.getElem?_toArray, List.getElem?_cons_zero, List.getElem?_cons_succ]; rfl) | rfl
        case hQz20x20 => exact fun _ _ _ h => h
        case hyz20x20 => (refine Or.inl ⟨by rfl, ?_⟩; intro w hSw; (try dsimp only at hSw); go_simp; (try with_reducible rfl))
        simp only [Act.put, List.setIfInBounds_toArray, List.set_cons_zero, List.set_cons_succ]
        refine wpAnyH_ready (rs := [1, 21]) (by kernel_rfl) (by simp) ?_
        refine AllReadyH.cons rfl (fun K hK => ?_) (AllReadyH.cons rfl (fun K hK => ?_) AllReadyH.nil)
        all_goals go_simp
        · refine hK.out _ _ HSS.out (fun hHeld => ?_)
          clear hK K
          (try simp only [Act.put, List.setIfInBounds_toArray, List.set_cons_zero, List.set_cons_succ])
          refine wpAnyH_ready (rs := [21]) (by kernel_rfl) (by simp) ?_
          refine AllReadyH.cons rfl (fun K hK => ?_) AllReadyH.nil
          go_simp
          refine hK.out _ _ HSA.out (fun hHeld => ?_)
          clear hK K
          (try simp only [Act.put, List.setIfInBounds_toArray, List.set_cons_zero, List.set_cons_succ])
          refine wpAnyH_ready (rs := [22]) (by kernel_rfl) (by simp) ?_
          refine AllReadyH.cons rfl (fun K hK => ?_) AllReadyH.nil
          refine step_appE (w := wr.drew.alloc (.cells #[.int .i64 ((x : Int) + (N : Int)), .int .i64 ((y : Int) + (N : Int))] 41)) (w.heap.size + 3) (by rfl) _ _ (by rfl) (.slice A2 n2 c2) (es ++ shE N (fs.take j)) [((x : Int) + (N : Int), (y : Int) + (N : Int))] (by rfl) HBA.out.2.2.2.2.1 HBA.out.2.1 (some ⟨wr.heap.size, 0, none⟩) 1 1 (by rfl) (ReadE.box1 wr.drew _ _ _) HLL.out ?_
          intro v1 w8 own8 g8 hat8
          obtain ⟨A8, n8, c8, rfl⟩ := OwnE.shape own8
          have HBS := Lib.hid (HBA.out.store g8 own8 hat8)
          obtain ⟨gb8, gh8⟩ := HBA.out.grow g8
          have HX8 : Hid (w8.cell? ⟨w.heap.size, 0, none⟩ = some (.int .i64 (N : Int)) ∧ w8.cell? ⟨w.heap.size + 1, 1, none⟩ = some (.slice (some ⟨b, o, none⟩) k kc) ∧ w8.cell? ⟨b, o + j * 2, none⟩ = some (.int .i64 (x : Int)) ∧ w8.cell? ⟨b, o + j * 2 + 1, none⟩ = some (.int .i64 (y : Int))) := by
            have hbase := fun q hq => row_base HBA.out.2.2.2.2.1 q hq
            have hb := HBB.out
            exact ⟨g8.cell HSA.out.1 (fun e => by have h1 : w.heap.size + 3 ≤ w.heap.size := hbase _ e.symm; omega), g8.cell HSA.out.2.1 (fun e => by have h1 : w.heap.size + 3 ≤ w.heap.size + 1 := hbase _ e.symm; omega), g8.cell HSA.out.2.2.1 (fun e => by have h1 : w.heap.size + 3 ≤ b := hbase _ e.symm; omega), g8.cell HSA.out.2.2.2 (fun e => by have h1 : w.heap.size + 3 ≤ b := hbase _ e.symm; omega)⟩
          obtain ⟨t0, t1, t2, t3⟩ := blk_cells gh8
          refine hK.out _ _ HX8.out (fun hHeld => ?_)
          clear hK K
          (try simp only [Act.put, List.setIfInBounds_toArray, List.set_cons_zero, List.set_cons_succ])
          refine wpAnyH_take (i := 23) (oi := ?oiz21x23) (v := ?vz21x23) ?hiz21x23 (by kernel_rfl) (by kernel_rfl) (by kernel_rfl) ?hQz21x23 ?hyz21x23 (by assumption) ?restz21x23
          case hiz21x23 => first | (simp only [List.getElem?_toArray, List.getElem?_cons_zero, List.getElem?_cons_succ]; rfl) | rfl
          case hQz21x23 => exact fun _ _ _ h => h
          case hyz21x23 => (refine Or.inl ⟨by rfl, ?_⟩; intro w hSw; (try dsimp only at hSw); go_simp; (try with_reducible rfl))
          simp only [Act.put, List.setIfInBounds_toArray, List.set_cons_zero, List.set_cons_succ]
          refine wpAnyH_ready (rs := [24]) (by kernel_rfl) (by simp) ?_
          refine AllReadyH.cons rfl (fun K hK => ?_) AllReadyH.nil
          go_simp
          refine hK.out _ _ ⟨(grown_set w8 P 1 (.slice A8 n8 c8)).cell HX8.out.1 (by intro e; injection e with e; have h1 := HPP.out; have h2 := HBB.out; have h3 : w.heap.size = P := e; omega), (grown_set w8 P 1 (.slice A8 n8 c8)).cell HX8.out.2.1 (by intro e; injection e with e; have h1 := HPP.out; have h2 := HBB.out; have h3 : w.heap.size + 1 = P := e; omega), (grown_set w8 P 1 (.slice A8 n8 c8)).cell HX8.out.2.2.1 (by intro e; injection e with e; have h1 := HPP.out; have h2 := HBB.out; have h3 : b = P := e; omega), (grown_set w8 P 1 (.slice A8 n8 c8)).cell HX8.out.2.2.2 (by intro e; injection e with e; have h1 := HPP.out; have h2 := HBB.out; have h3 : b = P := e; omega)⟩ (fun hHeld => ?_)
          clear hK K
          (try simp only [Act.put, List.setIfInBounds_toArray, List.set_cons_zero, List.set_cons_succ])
          refine wpAnyH_done (by kernel_rfl) ?_ _
          rw [← HNX.out] at HBS
          clear HX8 t0 t1 t2 t3 gb8 gh8 own8 g8 hat8 p0 p1 p2 p3 q0 q1 q2 q3 q4
          go_wp2_with fail
          go_roundw
          case rel => exact ⟨j + 1, _, by have := HLT.out; omega, by go_num, HBS⟩
          case measure => have := HLT.out; simp [intOf]; omega
        · refine hK.out _ _ HSA.out (fun hHeld => ?_)
          clear hK K
          (try simp only [Act.put, List.setIfInBounds_toArray, List.set_cons_zero, List.set_cons_succ])
          refine wpAnyH_ready (rs := [1]) (by kernel_rfl) (by simp) ?_
          refine AllReadyH.cons rfl (fun K hK => ?_) AllReadyH.nil
          go_simp
          refine hK.out _ _ HSA.out (fun hHeld => ?_)
          clear hK K
          (try simp only [Act.put, List.setIfInBounds_toArray, List.set_cons_zero, List.set_cons_succ])
          refine wpAnyH_ready (rs := [22]) (by kernel_rfl) (by simp) ?_
          refine AllReadyH.cons rfl (fun K hK => ?_) AllReadyH.nil
          refine step_appE (w := wr.drew.alloc (.cells #[.int .i64 ((x : Int) + (N : Int)), .int .i64 ((y : Int) + (N : Int))] 41)) (w.heap.size + 3) (by rfl) _ _ (by rfl) (.slice A2 n2 c2) (es ++ shE N (fs.take j)) [((x : Int) + (N : Int), (y : Int) + (N : Int))] (by rfl) HBA.out.2.2.2.2.1 HBA.out.2.1 (some ⟨wr.heap.size, 0, none⟩) 1 1 (by rfl) (ReadE.box1 wr.drew _ _ _) HLL.out ?_
          intro v1 w8 own8 g8 hat8
          obtain ⟨A8, n8, c8, rfl⟩ := OwnE.shape own8
          have HBS := Lib.hid (HBA.out.store g8 own8 hat8)
          obtain ⟨gb8, gh8⟩ := HBA.out.grow g8
          have HX8 : Hid (w8.cell? ⟨w.heap.size, 0, none⟩ = some (.int .i64 (N : Int)) ∧ w8.cell? ⟨w.heap.size + 1, 1, none⟩ = some (.slice (some ⟨b, o, none⟩) k kc) ∧ w8.cell? ⟨b, o + j * 2, none⟩ = some (.int .i64 (x : Int)) ∧ w8.cell? ⟨b, o + j * 2 + 1, none⟩ = some (.int .i64 (y : Int))) := by
            have hbase := fun q hq => row_base HBA.out.2.2.2.2.1 q hq
            have hb := HBB.out
            exact ⟨g8.cell HSA.out.1 (fun e => by have h1 : w.heap.size + 3 ≤ w.heap.size := hbase _ e.symm; omega), g8.cell HSA.out.2.1 (fun e => by have h1 : w.heap.size + 3 ≤ w.heap.size + 1 := hbase _ e.symm; omega), g8.cell HSA.out.2.2.1 (fun e => by have h1 : w.heap.size + 3 ≤ b := hbase _ e.symm; omega), g8.cell HSA.out.2.2.2 (fun e => by have h1 : w.heap.size + 3 ≤ b := hbase _ e.symm; omega)⟩
          obtain ⟨t0, t1, t2, t3⟩ := blk_cells gh8
          refine hK.out _ _ HX8.out (fun hHeld => ?_)
          clear hK K
          (try simp only [Act.put, List.setIfInBounds_toArray, List.set_cons_zero, List.set_cons_succ])
          refine wpAnyH_take (i := 23) (oi := ?oiz22x23) (v := ?vz22x23) ?hiz22x23 (by kernel_rfl) (by kernel_rfl) (by kernel_rfl) ?hQz22x23 ?hyz22x23 (by assumption) ?restz22x23
          case hiz22x23 => first | (simp only [List.getElem?_toArray, List.getElem?_cons_zero, List.getElem?_cons_succ]; rfl) | rfl
          case hQz22x23 => exact fun _ _ _ h => h
          case hyz22x23 => (refine Or.inl ⟨by rfl, ?_⟩; intro w hSw; (try dsimp only at hSw); go_simp; (try with_reducible rfl))
          simp only [Act.put, List.setIfInBounds_toArray, List.set_cons_zero, List.set_cons_succ]
          refine wpAnyH_ready (rs := [24]) (by kernel_rfl) (by simp) ?_
          refine AllReadyH.cons rfl (fun K hK => ?_) AllReadyH.nil
          go_simp
          refine hK.out _ _ ⟨(grown_set w8 P 1 (.slice A8 n8 c8)).cell HX8.out.1 (by intro e; injection e with e; have h1 := HPP.out; have h2 := HBB.out; have h3 : w.heap.size = P := e; omega), (grown_set w8 P 1 (.slice A8 n8 c8)).cell HX8.out.2.1 (by intro e; injection e with e; have h1 := HPP.out; have h2 := HBB.out; have h3 : w.heap.size + 1 = P := e; omega), (grown_set w8 P 1 (.slice A8 n8 c8)).cell HX8.out.2.2.1 (by intro e; injection e with e; have h1 := HPP.out; have h2 := HBB.out; have h3 : b = P := e; omega), (grown_set w8 P 1 (.slice A8 n8 c8)).cell HX8.out.2.2.2 (by intro e; injection e with e; have h1 := HPP.out; have h2 := HBB.out; have h3 : b = P := e; omega)⟩ (fun hHeld => ?_)
          clear hK K
          (try simp only [Act.put, List.setIfInBounds_toArray, List.set_cons_zero, List.set_cons_succ])
          refine wpAnyH_done (by kernel_rfl) ?_ _
          rw [← HNX.out] at HBS
          clear HX8 t0 t1 t2 t3 gb8 gh8 own8 g8 hat8 p0 p1 p2 p3 q0 q1 q2 q3 q4
          go_wp2_with fail
          go_roundw
          case rel => exact ⟨j + 1, _, by have := HLT.out; omega, by go_num, HBS⟩
          case measure => have := HLT.out; simp [intOf]; omega
      · obtain rfl : j = k := by omega
        have hd : decide ((j : Int) < (j : Int)) = false := by rw [decide_eq_false_iff_not]; omega
        have HFE : Hid (es ++ shE N (fs.take j) = besE N es fs) := by
          unfold Hid besE
          rw [List.take_of_length_le (by have := HKL.out; omega)]
        have HBF := hbo
        rw [HFE.out] at HBF
        have hnl : n2 = (besE N es fs).length := by
          obtain ⟨A', c', e', -⟩ := OwnE.read HBF.out.2.2.2.2.1
          injection e'
        subst hnl
        have hg3 : wr.heap[w.heap.size + 2]? = some (gcells 0 none 0 0) := (HBF.out.1.block _ (by omega)).trans HG.out.2.2
        have HEND : Hid (((wr.setCell ⟨w.heap.size + 2, 0, none⟩ (.int .i64 ((N : Int) + (K : Int)))).setCell ⟨w.heap.size + 2, 1, none⟩ (.slice A2 (besE N es fs).length c2)).heap[w.heap.size + 2]? = some (.cells #[.int .i64 ((N : Int) + (K : Int)), .slice A2 (besE N es fs).length c2] 26 (0, 0))) :=
          Go.Proofs.YtnldfjoadmehcaaW.PrintWords.blk_put (cs := #[.int .i64 ((N : Int) + (K : Int)), .slice none 0 0]) (Go.Proofs.YtnldfjoadmehcaaW.PrintWords.blk_put (cs := #[.int .i64 0, .slice none 0 0]) hg3 0 _ rfl) 1 _ rfl
        have HBEL : Hid (Below w.heap.size w ((wr.setCell ⟨w.heap.size + 2, 0, none⟩ (.int .i64 ((N : Int) + (K : Int)))).setCell ⟨w.heap.size + 2, 1, none⟩ (.slice A2 (besE N es fs).length c2))) := Below.setCell (Below.setCell (HB3.out.trans (HBF.out.1.mono (by omega))) (by show w.heap.size ≤ w.heap.size + 2; omega) _) (by show w.heap.size ≤ w.heap.size + 2; omega) _
        have HOWN : Hid (ReadE ((wr.setCell ⟨w.heap.size + 2, 0, none⟩ (.int .i64 ((N : Int) + (K : Int)))).setCell ⟨w.heap.size + 2, 1, none⟩ (.slice A2 (besE N es fs).length c2)) A2 (besE N es fs).length (besE N es fs)) := readE_own (own_set2 HBF.out.2.2.2.2.1 (by omega))
        obtain ⟨p0, p1, p2, p3⟩ := HBF.out.cells
        obtain ⟨r0, r1, r2, r3⟩ := blk_cells hg3
        clear hlt hj hg3 HFE
        go_wp2_with fail
        (try simp only [Exit.inBlock, Exit.then])
        refine bodyPost_ret (results_cell_row rfl _ _ (w.heap.size + 2) 26 #[.int .i64 ((N : Int) + (K : Int)), .slice A2 (besE N es fs).length c2] (0, 0) _ rfl HEND.out Try.underlying26 rfl (by kernel_rfl)) rfl ?_
        exact ⟨A2, c2, rfl, HOWN.out, HBEL.out⟩
  · have HBI : BO (w.heap.size + 3) w3 w3.heap.size ((N : Int) + K) (.slice A1 nn1 c1) es ((w11.setCell ⟨w3.heap.size, 0, none⟩ (.int .i64 ((N : Int) + K))).setCell ⟨w3.heap.size, 1, none⟩ (.slice A1 nn1 c1)) := by
      have hz := Below.size rw11
      have hb : Below (w.heap.size + 3) w3 w11 := by rw [← HSZ.out]; exact rw11
      have h9 := HSZ.out
      have hne : (Value.slice A1 nn1 c1).ownBlock ≠ some w3.heap.size := by
        rcases hat1 with q | q
        · rw [q]; simp [Value.ownBlock]
        · rw [q]; simp
      refine ⟨Below.setCell (Below.setCell hb (by show _ ≤ w3.heap.size; omega) _) (by show _ ≤ w3.heap.size; omega) _, by simp [World.setCell]; omega, by omega, Go.Proofs.YtnldfjoadmehcaaW.PrintWords.blk_put (cs := #[.int .i64 ((N : Int) + K), .slice none 0 0]) (Go.Proofs.YtnldfjoadmehcaaW.PrintWords.blk_put (cs := #[.int .i64 0, .slice none 0 0]) (newblk nb) 0 _ rfl) 1 _ rfl, ?_, hne⟩
      refine World.ownsRow.kept (row := some w3.heap.size) own1 ((grown_set _ _ _ _).trans (grown_set _ _ _ _)) ?_
      cases q : (Value.slice A1 nn1 c1).ownBlock
      · exact .inl rfl
      · exact .inr (by rw [← q]; exact hne)
    have HBO0 : Hid (BO (w.heap.size + 3) w3 w3.heap.size ((N : Int) + K) (.slice A1 nn1 c1) (es ++ shE N (fs.take 0)) ((w11.setCell ⟨w3.heap.size, 0, none⟩ (.int .i64 ((N : Int) + K))).setCell ⟨w3.heap.size, 1, none⟩ (.slice A1 nn1 c1))) := by
      have e : es ++ shE N (fs.take 0) = es := by simp [shE]
      rw [e]
      exact HBI
    obtain ⟨P, hP⟩ : ∃ P, P = w3.heap.size := ⟨_, rfl⟩
    obtain ⟨W0, hW0⟩ : ∃ W0, W0 = (w11.setCell ⟨w3.heap.size, 0, none⟩ (.int .i64 ((N : Int) + K))).setCell ⟨w3.heap.size, 1, none⟩ (.slice A1 nn1 c1) := ⟨_, rfl⟩
    rw [← hW0, ← hP] at HBO0
    rw [← hW0, ← hP]
    clear hP hW0 HBI
    (try clear n0 n1 n2 n3 nb)
    clear rw11 own1 g11 hat1
    have HPP : Hid (w.heap.size + 3 ≤ P) := HBO0.out.2.2.1
    obtain ⟨x0, x1, x2, x3⟩ := BX.out _ _ _ _ HBO0
    have HK0 := Lib.hid x3
    go_wp2_with fail
    clear x0 x1 x2 x3
    go_loopw [6] (fun i wr => ∃ (j : Nat) (v : Value), j ≤ k ∧ i = .int .i64 j ∧ Hid (BO (w.heap.size + 3) w3 P ((N : Int) + K) v (es ++ shE N (fs.take j)) wr)) (fun i _ => k - (intOf i).toNat)
    case atStart => exact ⟨0, _, Nat.zero_le _, rfl, HBO0⟩
    case round =>
      obtain ⟨j, v, hj, rfl, hbo⟩ := hrel
      obtain ⟨x0, x1, x2, x3⟩ := BX.out _ _ _ _ hbo
      obtain ⟨A2, n2, c2, rfl⟩ := OwnE.shape hbo.out.2.2.2.2.1
      by_cases hlt : j < k
      · have HLT := Lib.hid hlt
        obtain ⟨b, o, rfl, hc⟩ := (HS3.out.below (BR.out _ _ _ hbo)).2.2 (by omega)
        obtain ⟨hc1, hc2⟩ := hc j hlt
        have hke : j < fs.length := by have := HKL.out; omega
        obtain ⟨x, y, he, hxy, hyK⟩ := edge_nat (HFI.out.1 _ (show ge fs j ∈ fs by rw [ge_get hke]; exact List.getElem_mem _))
        rw [he] at hc1 hc2
        simp only [] at hc1 hc2
        have HNX : Hid (es ++ shE N (fs.take (j + 1)) = es ++ shE N (fs.take j) ++ [((x : Int) + (N : Int), (y : Int) + (N : Int))]) := by
          unfold Hid shE
          rw [takeE_succ hke, he]
          simp
        have hji : (0 : Int) ≤ (j : Int) ∧ (j : Int) < (k : Int) := by omega
        have s1 : IntKind.i64.wrap ((x : Int) + (N : Int)) = (x : Int) + (N : Int) := by rw [IntKind.wrap_i64]; omega
        have s2 : IntKind.i64.wrap ((y : Int) + (N : Int)) = (y : Int) + (N : Int) := by rw [IntKind.wrap_i64]; omega
        have HLL : Hid ((es ++ shE N (fs.take j)).length + 1 ≤ 1000000000) := by
          have := HE.out.1
          unfold Hid
          rw [List.length_append, shE_length, List.length_take]
          omega
        have HSS : Hid (wr.cell? ⟨w.heap.size, 0, none⟩ = some (.int .i64 (N : Int)) ∧ wr.cell? ⟨w.heap.size + 1, 1, none⟩ = some (.slice (some ⟨b, o, none⟩) k kc) ∧ wr.cell? ⟨b, o + j * 2, none⟩ = some (.int .i64 (x : Int)) ∧ wr.cell? ⟨b, o + j * 2 + 1, none⟩ = some (.int .i64 (y : Int))) := ⟨x0, x3, hc1, hc2⟩
        have HBD := Lib.hid (hbo.out.later (RW.refl wr).drew)
        have HBA := Lib.hid (HBD.out.later (bel_alloc wr.drew (.cells #[.int .i64 ((x : Int) + (N : Int)), .int .i64 ((y : Int) + (N : Int))] 41)))
        have HSA : Hid ((wr.drew.alloc (.cells #[.int .i64 ((x : Int) + (N : Int)), .int .i64 ((y : Int) + (N : Int))] 41)).cell? ⟨w.heap.size, 0, none⟩ = some (.int .i64 (N : Int)) ∧ (wr.drew.alloc (.cells #[.int .i64 ((x : Int) + (N : Int)), .int .i64 ((y : Int) + (N : Int))] 41)).cell? ⟨w.heap.size + 1, 1, none⟩ = some (.slice (some ⟨b, o, none⟩) k kc) ∧ (wr.drew.alloc (.cells #[.int .i64 ((x : Int) + (N : Int)), .int .i64 ((y : Int) + (N : Int))] 41)).cell? ⟨b, o + j * 2, none⟩ = some (.int .i64 (x : Int)) ∧ (wr.drew.alloc (.cells #[.int .i64 ((x : Int) + (N : Int)), .int .i64 ((y : Int) + (N : Int))] 41)).cell? ⟨b, o + j * 2 + 1, none⟩ = some (.int .i64 (y : Int))) :=
          ⟨cell_later (bel_alloc wr.drew _) HSS.out.1, cell_later (bel_alloc wr.drew _) HSS.out.2.1, cell_later (bel_alloc wr.drew _) HSS.out.2.2.1, cell_later (bel_alloc wr.drew _) HSS.out.2.2.2⟩
        have HBB : Hid (b < w.heap.size + 3) := by
          obtain ⟨b', o', e', hc'⟩ := HS3.out.2.2 (by omega)
          injection e' with e'
          injection e' with e1 e2
          subst e1
          rw [← HSZ.out]
          exact World.block_lt_of_cell? w3 _ (hc' j hlt).1
        obtain ⟨p0, p1, p2, p3⟩ := hbo.out.cells
        obtain ⟨q0, q1, q2, q3⟩ := HBA.out.cells
        have q4 := cell_later (bel_alloc wr (.cells #[.int .i64 ((x : Int) + (N : Int)), .int .i64 ((y : Int) + (N : Int))] 41)) p1
        clear hc hc1 hc2 he hke hxy hyK
        go_wp2_with fail
        clear x0 x1 x2 x3
        refine wp_region_held_drew (S := fun w' => w'.cell? ⟨w.heap.size, 0, none⟩ = some (.int .i64 (N : Int)) ∧ w'.cell? ⟨w.heap.size + 1, 1, none⟩ = some (.slice (some ⟨b, o, none⟩) k kc) ∧ w'.cell? ⟨b, o + j * 2, none⟩ = some (.int .i64 (x : Int)) ∧ w'.cell? ⟨b, o + j * 2 + 1, none⟩ = some (.int .i64 (y : Int))) (by kernel_rfl) HSS.out (fun hHeld => ?_)
        refine wpAnyH_take (i := 0) (oi := ?oiz23x0) (v := ?vz23x0) ?hiz23x0 (by kernel_rfl) (by kernel_rfl) (by kernel_rfl) ?hQz23x0 ?hyz23x0 (by assumption) ?restz23x0
        case hiz23x0 => first | (simp only [List.getElem?_toArray, List.getElem?_cons_zero, List.getElem?_cons_succ]; rfl) | rfl
        case hQz23x0 => exact fun _ _ _ h => h
        case hyz23x0 => (refine Or.inl ⟨by rfl, ?_⟩; intro w hSw; (try dsimp only at hSw); go_simp; (try with_reducible rfl))
        simp only [Act.put, List.setIfInBounds_toArray, List.set_cons_zero, List.set_cons_succ]
        refine wpAnyH_take (i := 2) (oi := ?oiz24x2) (v := ?vz24x2) ?hiz24x2 (by kernel_rfl) (by kernel_rfl) (by kernel_rfl) ?hQz24x2 ?hyz24x2 (by assumption) ?restz24x2
        case hiz24x2 => first | (simp only [List.getElem?_toArray, List.getElem?_cons_zero, List.getElem?_cons_succ]; rfl) | rfl
        case hQz24x2 => exact fun _ _ _ h => h
        case hyz24x2 => (refine Or.inl ⟨by rfl, ?_⟩; intro w hSw; (try dsimp only at hSw); go_simp; (try with_reducible rfl))
        simp only [Act.put, List.setIfInBounds_toArray, List.set_cons_zero, List.set_cons_succ]
        refine wpAnyH_take (i := 3) (oi := ?oiz25x3) (v := ?vz25x3) ?hiz25x3 (by kernel_rfl) (by kernel_rfl) (by kernel_rfl) ?hQz25x3 ?hyz25x3 (by assumption) ?restz25x3
        case hiz25x3 => first | (simp only [List.getElem?_toArray, List.getElem?_cons_zero, List.getElem?_cons_succ]; rfl) | rfl
        case hQz25x3 => exact fun _ _ _ h => h
        case hyz25x3 => (refine Or.inl ⟨by rfl, ?_⟩; intro w hSw; (try dsimp only at hSw); go_simp; (try with_reducible rfl))
        simp only [Act.put, List.setIfInBounds_toArray, List.set_cons_zero, List.set_cons_succ]
        refine wpAnyH_take (i := 4) (oi := ?oiz26x4) (v := ?vz26x4) ?hiz26x4 (by kernel_rfl) (by kernel_rfl) (by kernel_rfl) ?hQz26x4 ?hyz26x4 (by assumption) ?restz26x4
        case hiz26x4 => first | (simp only [List.getElem?_toArray, List.getElem?_cons_zero, List.getElem?_cons_succ]; rfl) | rfl
        case hQz26x4 => exact fun _ _ _ h => h
        case hyz26x4 => (refine Or.inl ⟨by rfl, ?_⟩; intro w hSw; (try dsimp only at hSw); go_simp; (try with_reducible rfl))
        simp only [Act.put, List.setIfInBounds_toArray, List.set_cons_zero, List.set_cons_succ]
        refine wpAnyH_take (i := 5) (oi := ?oiz27x5) (v := ?vz27x5) ?hiz27x5 (by kernel_rfl) (by kernel_rfl) (by kernel_rfl) ?hQz27x5 ?hyz27x5 (by assumption) ?restz27x5
        case hiz27x5 => first | (simp only [List.getElem?_toArray, List.getElem?_cons_zero, List.getElem?_cons_succ]; rfl) | rfl
        case hQz27x5 => exact fun _ _ _ h => h
        case hyz27x5 => (refine Or.inl ⟨by rfl, ?_⟩; intro w hSw; (try dsimp only at hSw); go_simp; (try with_reducible rfl))
        simp only [Act.put, List.setIfInBounds_toArray, List.set_cons_zero, List.set_cons_succ]
        refine wpAnyH_take (i := 6) (oi := ?oiz28x6) (v := ?vz28x6) ?hiz28x6 (by kernel_rfl) (by kernel_rfl) (by kernel_rfl) ?hQz28x6 ?hyz28x6 (by assumption) ?restz28x6
        case hiz28x6 => first | (simp only [List.getElem?_toArray, List.getElem?_cons_zero, List.getElem?_cons_succ]; rfl) | rfl
        case hQz28x6 => exact fun _ _ _ h => h
        case hyz28x6 => (refine Or.inl ⟨by rfl, ?_⟩; intro w hSw; (try dsimp only at hSw); go_simp; (try with_reducible rfl))
        simp only [Act.put, List.setIfInBounds_toArray, List.set_cons_zero, List.set_cons_succ]
        refine wpAnyH_take (i := 7) (oi := ?oiz29x7) (v := ?vz29x7) ?hiz29x7 (by kernel_rfl) (by kernel_rfl) (by kernel_rfl) ?hQz29x7 ?hyz29x7 (by assumption) ?restz29x7
        case hiz29x7 => first | (simp only [List.getElem?_toArray, List.getElem?_cons_zero, List.getElem?_cons_succ]; rfl) | rfl
        case hQz29x7 => exact fun _ _ _ h => h
        case hyz29x7 => (refine Or.inl ⟨by rfl, ?_⟩; intro w hSw; (try dsimp only at hSw); go_simp; (try with_reducible rfl))
        simp only [Act.put, List.setIfInBounds_toArray, List.set_cons_zero, List.set_cons_succ]
        refine wpAnyH_take (i := 8) (oi := ?oiz30x8) (v := ?vz30x8) ?hiz30x8 (by kernel_rfl) (by kernel_rfl) (by kernel_rfl) ?hQz30x8 ?hyz30x8 (by assumption) ?restz30x8
        case hiz30x8 => first | (simp only [List.getElem?_toArray, List.getElem?_cons_zero, List.getElem?_cons_succ]; rfl) | rfl
        case hQz30x8 => exact fun _ _ _ h => h
        case hyz30x8 => (refine Or.inl ⟨by rfl, ?_⟩; intro w hSw; (try dsimp only at hSw); go_simp; (try with_reducible rfl))
        simp only [Act.put, List.setIfInBounds_toArray, List.set_cons_zero, List.set_cons_succ]
        refine wpAnyH_take (i := 9) (oi := ?oiz31x9) (v := ?vz31x9) ?hiz31x9 (by kernel_rfl) (by kernel_rfl) (by kernel_rfl) ?hQz31x9 ?hyz31x9 (by assumption) ?restz31x9
        case hiz31x9 => first | (simp only [List.getElem?_toArray, List.getElem?_cons_zero, List.getElem?_cons_succ]; rfl) | rfl
        case hQz31x9 => exact fun _ _ _ h => h
        case hyz31x9 => (refine Or.inl ⟨by rfl, ?_⟩; intro w hSw; (try dsimp only at hSw); go_simp; (try with_reducible rfl))
        simp only [Act.put, List.setIfInBounds_toArray, List.set_cons_zero, List.set_cons_succ]
        refine wpAnyH_take (i := 10) (oi := ?oiz32x10) (v := ?vz32x10) ?hiz32x10 (by kernel_rfl) (by kernel_rfl) (by kernel_rfl) ?hQz32x10 ?hyz32x10 (by assumption) ?restz32x10
        case hiz32x10 => first | (simp only [List.getElem?_toArray, List.getElem?_cons_zero, List.getElem?_cons_succ]; rfl) | rfl
        case hQz32x10 => exact fun _ _ _ h => h
        case hyz32x10 => (refine Or.inl ⟨by rfl, ?_⟩; intro w hSw; (try dsimp only at hSw); go_simp; (try with_reducible rfl))
        simp only [Act.put, List.setIfInBounds_toArray, List.set_cons_zero, List.set_cons_succ]
        refine wpAnyH_take (i := 11) (oi := ?oiz33x11) (v := ?vz33x11) ?hiz33x11 (by kernel_rfl) (by kernel_rfl) (by kernel_rfl) ?hQz33x11 ?hyz33x11 (by assumption) ?restz33x11
        case hiz33x11 => first | (simp only [List.getElem?_toArray, List.getElem?_cons_zero, List.getElem?_cons_succ]; rfl) | rfl
        case hQz33x11 => exact fun _ _ _ h => h
        case hyz33x11 => (refine Or.inl ⟨by rfl, ?_⟩; intro w hSw; (try dsimp only at hSw); go_simp; (try with_reducible rfl))
        simp only [Act.put, List.setIfInBounds_toArray, List.set_cons_zero, List.set_cons_succ]
        refine wpAnyH_take (i := 12) (oi := ?oiz34x12) (v := ?vz34x12) ?hiz34x12 (by kernel_rfl) (by kernel_rfl) (by kernel_rfl) ?hQz34x12 ?hyz34x12 (by assumption) ?restz34x12
        case hiz34x12 => first | (simp only [List.getElem?_toArray, List.getElem?_cons_zero, List.getElem?_cons_succ]; rfl) | rfl
        case hQz34x12 => exact fun _ _ _ h => h
        case hyz34x12 => (refine Or.inl ⟨by rfl, ?_⟩; intro w hSw; (try dsimp only at hSw); go_simp; (try with_reducible rfl))
        simp only [Act.put, List.setIfInBounds_toArray, List.set_cons_zero, List.set_cons_succ]
        refine wpAnyH_take (i := 13) (oi := ?oiz35x13) (v := ?vz35x13) ?hiz35x13 (by kernel_rfl) (by kernel_rfl) (by kernel_rfl) ?hQz35x13 ?hyz35x13 (by assumption) ?restz35x13
        case hiz35x13 => first | (simp only [List.getElem?_toArray, List.getElem?_cons_zero, List.getElem?_cons_succ]; rfl) | rfl
        case hQz35x13 => exact fun _ _ _ h => h
        case hyz35x13 => (refine Or.inl ⟨by rfl, ?_⟩; intro w hSw; (try dsimp only at hSw); go_simp; (try with_reducible rfl))
        simp only [Act.put, List.setIfInBounds_toArray, List.set_cons_zero, List.set_cons_succ]
        refine wpAnyH_take (i := 14) (oi := ?oiz36x14) (v := ?vz36x14) ?hiz36x14 (by kernel_rfl) (by kernel_rfl) (by kernel_rfl) ?hQz36x14 ?hyz36x14 (by assumption) ?restz36x14
        case hiz36x14 => first | (simp only [List.getElem?_toArray, List.getElem?_cons_zero, List.getElem?_cons_succ]; rfl) | rfl
        case hQz36x14 => exact fun _ _ _ h => h
        case hyz36x14 => (refine Or.inl ⟨by rfl, ?_⟩; intro w hSw; (try dsimp only at hSw); go_simp; (try with_reducible rfl))
        simp only [Act.put, List.setIfInBounds_toArray, List.set_cons_zero, List.set_cons_succ]
        refine wpAnyH_take (i := 15) (oi := ?oiz37x15) (v := ?vz37x15) ?hiz37x15 (by kernel_rfl) (by kernel_rfl) (by kernel_rfl) ?hQz37x15 ?hyz37x15 (by assumption) ?restz37x15
        case hiz37x15 => first | (simp only [List.getElem?_toArray, List.getElem?_cons_zero, List.getElem?_cons_succ]; rfl) | rfl
        case hQz37x15 => exact fun _ _ _ h => h
        case hyz37x15 => (refine Or.inl ⟨by rfl, ?_⟩; intro w hSw; (try dsimp only at hSw); go_simp; (try with_reducible rfl))
        simp only [Act.put, List.setIfInBounds_toArray, List.set_cons_zero, List.set_cons_succ]
        refine wpAnyH_take (i := 16) (oi := ?oiz38x16) (v := ?vz38x16) ?hiz38x16 (by kernel_rfl) (by kernel_rfl) (by kernel_rfl) ?hQz38x16 ?hyz38x16 (by assumption) ?restz38x16
        case hiz38x16 => first | (simp only [List.getElem?_toArray, List.getElem?_cons_zero, List.getElem?_cons_succ]; rfl) | rfl
        case hQz38x16 => exact fun _ _ _ h => h
        case hyz38x16 => (refine Or.inl ⟨by rfl, ?_⟩; intro w hSw; (try dsimp only at hSw); go_simp; (try with_reducible rfl))
        simp only [Act.put, List.setIfInBounds_toArray, List.set_cons_zero, List.set_cons_succ]
        refine wpAnyH_take (i := 17) (oi := ?oiz39x17) (v := ?vz39x17) ?hiz39x17 (by kernel_rfl) (by kernel_rfl) (by kernel_rfl) ?hQz39x17 ?hyz39x17 (by assumption) ?restz39x17
        case hiz39x17 => first | (simp only [List.getElem?_toArray, List.getElem?_cons_zero, List.getElem?_cons_succ]; rfl) | rfl
        case hQz39x17 => exact fun _ _ _ h => h
        case hyz39x17 => (refine Or.inl ⟨by rfl, ?_⟩; intro w hSw; (try dsimp only at hSw); go_simp; (try with_reducible rfl))
        simp only [Act.put, List.setIfInBounds_toArray, List.set_cons_zero, List.set_cons_succ]
        refine wpAnyH_take (i := 18) (oi := ?oiz40x18) (v := ?vz40x18) ?hiz40x18 (by kernel_rfl) (by kernel_rfl) (by kernel_rfl) ?hQz40x18 ?hyz40x18 (by assumption) ?restz40x18
        case hiz40x18 => first | (simp only [List.getElem?_toArray, List.getElem?_cons_zero, List.getElem?_cons_succ]; rfl) | rfl
        case hQz40x18 => exact fun _ _ _ h => h
        case hyz40x18 => (refine Or.inl ⟨by rfl, ?_⟩; intro w hSw; (try dsimp only at hSw); go_simp; (try with_reducible rfl))
        simp only [Act.put, List.setIfInBounds_toArray, List.set_cons_zero, List.set_cons_succ]
        refine wpAnyH_take (i := 19) (oi := ?oiz41x19) (v := ?vz41x19) ?hiz41x19 (by kernel_rfl) (by kernel_rfl) (by kernel_rfl) ?hQz41x19 ?hyz41x19 (by assumption) ?restz41x19
        case hiz41x19 => first | (simp only [List.getElem?_toArray, List.getElem?_cons_zero, List.getElem?_cons_succ]; rfl) | rfl
        case hQz41x19 => exact fun _ _ _ h => h
        case hyz41x19 => (refine Or.inl ⟨by rfl, ?_⟩; intro w hSw; (try dsimp only at hSw); go_simp; (try with_reducible rfl))
        simp only [Act.put, List.setIfInBounds_toArray, List.set_cons_zero, List.set_cons_succ]
        refine wpAnyH_take (i := 20) (oi := ?oiz42x20) (v := ?vz42x20) ?hiz42x20 (by kernel_rfl) (by kernel_rfl) (by kernel_rfl) ?hQz42x20 ?hyz42x20 (by assumption) ?restz42x20
        case hiz42x20 => first | (simp only [List.getElem?_toArray, List.getElem?_cons_zero, List.getElem?_cons_succ]; rfl) | rfl
        case hQz42x20 => exact fun _ _ _ h => h
        case hyz42x20 => (refine Or.inl ⟨by rfl, ?_⟩; intro w hSw; (try dsimp only at hSw); go_simp; (try with_reducible rfl))
        simp only [Act.put, List.setIfInBounds_toArray, List.set_cons_zero, List.set_cons_succ]
        refine wpAnyH_ready (rs := [1, 21]) (by kernel_rfl) (by simp) ?_
        refine AllReadyH.cons rfl (fun K hK => ?_) (AllReadyH.cons rfl (fun K hK => ?_) AllReadyH.nil)
        all_goals go_simp
        · refine hK.out _ _ HSS.out (fun hHeld => ?_)
          clear hK K
          (try simp only [Act.put, List.setIfInBounds_toArray, List.set_cons_zero, List.set_cons_succ])
          refine wpAnyH_ready (rs := [21]) (by kernel_rfl) (by simp) ?_
          refine AllReadyH.cons rfl (fun K hK => ?_) AllReadyH.nil
          go_simp
          refine hK.out _ _ HSA.out (fun hHeld => ?_)
          clear hK K
          (try simp only [Act.put, List.setIfInBounds_toArray, List.set_cons_zero, List.set_cons_succ])
          refine wpAnyH_ready (rs := [22]) (by kernel_rfl) (by simp) ?_
          refine AllReadyH.cons rfl (fun K hK => ?_) AllReadyH.nil
          refine step_appE (w := wr.drew.alloc (.cells #[.int .i64 ((x : Int) + (N : Int)), .int .i64 ((y : Int) + (N : Int))] 41)) (w.heap.size + 3) (by rfl) _ _ (by rfl) (.slice A2 n2 c2) (es ++ shE N (fs.take j)) [((x : Int) + (N : Int), (y : Int) + (N : Int))] (by rfl) HBA.out.2.2.2.2.1 HBA.out.2.1 (some ⟨wr.heap.size, 0, none⟩) 1 1 (by rfl) (ReadE.box1 wr.drew _ _ _) HLL.out ?_
          intro v1 w8 own8 g8 hat8
          obtain ⟨A8, n8, c8, rfl⟩ := OwnE.shape own8
          have HBS := Lib.hid (HBA.out.store g8 own8 hat8)
          obtain ⟨gb8, gh8⟩ := HBA.out.grow g8
          have HX8 : Hid (w8.cell? ⟨w.heap.size, 0, none⟩ = some (.int .i64 (N : Int)) ∧ w8.cell? ⟨w.heap.size + 1, 1, none⟩ = some (.slice (some ⟨b, o, none⟩) k kc) ∧ w8.cell? ⟨b, o + j * 2, none⟩ = some (.int .i64 (x : Int)) ∧ w8.cell? ⟨b, o + j * 2 + 1, none⟩ = some (.int .i64 (y : Int))) := by
            have hbase := fun q hq => row_base HBA.out.2.2.2.2.1 q hq
            have hb := HBB.out
            exact ⟨g8.cell HSA.out.1 (fun e => by have h1 : w.heap.size + 3 ≤ w.heap.size := hbase _ e.symm; omega), g8.cell HSA.out.2.1 (fun e => by have h1 : w.heap.size + 3 ≤ w.heap.size + 1 := hbase _ e.symm; omega), g8.cell HSA.out.2.2.1 (fun e => by have h1 : w.heap.size + 3 ≤ b := hbase _ e.symm; omega), g8.cell HSA.out.2.2.2 (fun e => by have h1 : w.heap.size + 3 ≤ b := hbase _ e.symm; omega)⟩
          obtain ⟨t0, t1, t2, t3⟩ := blk_cells gh8
          refine hK.out _ _ HX8.out (fun hHeld => ?_)
          clear hK K
          (try simp only [Act.put, List.setIfInBounds_toArray, List.set_cons_zero, List.set_cons_succ])
          refine wpAnyH_take (i := 23) (oi := ?oiz43x23) (v := ?vz43x23) ?hiz43x23 (by kernel_rfl) (by kernel_rfl) (by kernel_rfl) ?hQz43x23 ?hyz43x23 (by assumption) ?restz43x23
          case hiz43x23 => first | (simp only [List.getElem?_toArray, List.getElem?_cons_zero, List.getElem?_cons_succ]; rfl) | rfl
          case hQz43x23 => exact fun _ _ _ h => h
          case hyz43x23 => (refine Or.inl ⟨by rfl, ?_⟩; intro w hSw; (try dsimp only at hSw); go_simp; (try with_reducible rfl))
          simp only [Act.put, List.setIfInBounds_toArray, List.set_cons_zero, List.set_cons_succ]
          refine wpAnyH_ready (rs := [24]) (by kernel_rfl) (by simp) ?_
          refine AllReadyH.cons rfl (fun K hK => ?_) AllReadyH.nil
          go_simp
          refine hK.out _ _ ⟨(grown_set w8 P 1 (.slice A8 n8 c8)).cell HX8.out.1 (by intro e; injection e with e; have h1 := HPP.out; have h2 := HBB.out; have h3 : w.heap.size = P := e; omega), (grown_set w8 P 1 (.slice A8 n8 c8)).cell HX8.out.2.1 (by intro e; injection e with e; have h1 := HPP.out; have h2 := HBB.out; have h3 : w.heap.size + 1 = P := e; omega), (grown_set w8 P 1 (.slice A8 n8 c8)).cell HX8.out.2.2.1 (by intro e; injection e with e; have h1 := HPP.out; have h2 := HBB.out; have h3 : b = P := e; omega), (grown_set w8 P 1 (.slice A8 n8 c8)).cell HX8.out.2.2.2 (by intro e; injection e with e; have h1 := HPP.out; have h2 := HBB.out; have h3 : b = P := e; omega)⟩ (fun hHeld => ?_)
          clear hK K
          (try simp only [Act.put, List.setIfInBounds_toArray, List.set_cons_zero, List.set_cons_succ])
          refine wpAnyH_done (by kernel_rfl) ?_ _
          rw [← HNX.out] at HBS
          clear HX8 t0 t1 t2 t3 gb8 gh8 own8 g8 hat8 p0 p1 p2 p3 q0 q1 q2 q3 q4
          go_wp2_with fail
          go_roundw
          case rel => exact ⟨j + 1, _, by have := HLT.out; omega, by go_num, HBS⟩
          case measure => have := HLT.out; simp [intOf]; omega
        · refine hK.out _ _ HSA.out (fun hHeld => ?_)
          clear hK K
          (try simp only [Act.put, List.setIfInBounds_toArray, List.set_cons_zero, List.set_cons_succ])
          refine wpAnyH_ready (rs := [1]) (by kernel_rfl) (by simp) ?_
          refine AllReadyH.cons rfl (fun K hK => ?_) AllReadyH.nil
          go_simp
          refine hK.out _ _ HSA.out (fun hHeld => ?_)
          clear hK K
          (try simp only [Act.put, List.setIfInBounds_toArray, List.set_cons_zero, List.set_cons_succ])
          refine wpAnyH_ready (rs := [22]) (by kernel_rfl) (by simp) ?_
          refine AllReadyH.cons rfl (fun K hK => ?_) AllReadyH.nil
          refine step_appE (w := wr.drew.alloc (.cells #[.int .i64 ((x : Int) + (N : Int)), .int .i64 ((y : Int) + (N : Int))] 41)) (w.heap.size + 3) (by rfl) _ _ (by rfl) (.slice A2 n2 c2) (es ++ shE N (fs.take j)) [((x : Int) + (N : Int), (y : Int) + (N : Int))] (by rfl) HBA.out.2.2.2.2.1 HBA.out.2.1 (some ⟨wr.heap.size, 0, none⟩) 1 1 (by rfl) (ReadE.box1 wr.drew _ _ _) HLL.out ?_
          intro v1 w8 own8 g8 hat8
          obtain ⟨A8, n8, c8, rfl⟩ := OwnE.shape own8
          have HBS := Lib.hid (HBA.out.store g8 own8 hat8)
          obtain ⟨gb8, gh8⟩ := HBA.out.grow g8
          have HX8 : Hid (w8.cell? ⟨w.heap.size, 0, none⟩ = some (.int .i64 (N : Int)) ∧ w8.cell? ⟨w.heap.size + 1, 1, none⟩ = some (.slice (some ⟨b, o, none⟩) k kc) ∧ w8.cell? ⟨b, o + j * 2, none⟩ = some (.int .i64 (x : Int)) ∧ w8.cell? ⟨b, o + j * 2 + 1, none⟩ = some (.int .i64 (y : Int))) := by
            have hbase := fun q hq => row_base HBA.out.2.2.2.2.1 q hq
            have hb := HBB.out
            exact ⟨g8.cell HSA.out.1 (fun e => by have h1 : w.heap.size + 3 ≤ w.heap.size := hbase _ e.symm; omega), g8.cell HSA.out.2.1 (fun e => by have h1 : w.heap.size + 3 ≤ w.heap.size + 1 := hbase _ e.symm; omega), g8.cell HSA.out.2.2.1 (fun e => by have h1 : w.heap.size + 3 ≤ b := hbase _ e.symm; omega), g8.cell HSA.out.2.2.2 (fun e => by have h1 : w.heap.size + 3 ≤ b := hbase _ e.symm; omega)⟩
          obtain ⟨t0, t1, t2, t3⟩ := blk_cells gh8
          refine hK.out _ _ HX8.out (fun hHeld => ?_)
          clear hK K
          (try simp only [Act.put, List.setIfInBounds_toArray, List.set_cons_zero, List.set_cons_succ])
          refine wpAnyH_take (i := 23) (oi := ?oiz44x23) (v := ?vz44x23) ?hiz44x23 (by kernel_rfl) (by kernel_rfl) (by kernel_rfl) ?hQz44x23 ?hyz44x23 (by assumption) ?restz44x23
          case hiz44x23 => first | (simp only [List.getElem?_toArray, List.getElem?_cons_zero, List.getElem?_cons_succ]; rfl) | rfl
          case hQz44x23 => exact fun _ _ _ h => h
          case hyz44x23 => (refine Or.inl ⟨by rfl, ?_⟩; intro w hSw; (try dsimp only at hSw); go_simp; (try with_reducible rfl))
          simp only [Act.put, List.setIfInBounds_toArray, List.set_cons_zero, List.set_cons_succ]
          refine wpAnyH_ready (rs := [24]) (by kernel_rfl) (by simp) ?_
          refine AllReadyH.cons rfl (fun K hK => ?_) AllReadyH.nil
          go_simp
          refine hK.out _ _ ⟨(grown_set w8 P 1 (.slice A8 n8 c8)).cell HX8.out.1 (by intro e; injection e with e; have h1 := HPP.out; have h2 := HBB.out; have h3 : w.heap.size = P := e; omega), (grown_set w8 P 1 (.slice A8 n8 c8)).cell HX8.out.2.1 (by intro e; injection e with e; have h1 := HPP.out; have h2 := HBB.out; have h3 : w.heap.size + 1 = P := e; omega), (grown_set w8 P 1 (.slice A8 n8 c8)).cell HX8.out.2.2.1 (by intro e; injection e with e; have h1 := HPP.out; have h2 := HBB.out; have h3 : b = P := e; omega), (grown_set w8 P 1 (.slice A8 n8 c8)).cell HX8.out.2.2.2 (by intro e; injection e with e; have h1 := HPP.out; have h2 := HBB.out; have h3 : b = P := e; omega)⟩ (fun hHeld => ?_)
          clear hK K
          (try simp only [Act.put, List.setIfInBounds_toArray, List.set_cons_zero, List.set_cons_succ])
          refine wpAnyH_done (by kernel_rfl) ?_ _
          rw [← HNX.out] at HBS
          clear HX8 t0 t1 t2 t3 gb8 gh8 own8 g8 hat8 p0 p1 p2 p3 q0 q1 q2 q3 q4
          go_wp2_with fail
          go_roundw
          case rel => exact ⟨j + 1, _, by have := HLT.out; omega, by go_num, HBS⟩
          case measure => have := HLT.out; simp [intOf]; omega
      · obtain rfl : j = k := by omega
        have hd : decide ((j : Int) < (j : Int)) = false := by rw [decide_eq_false_iff_not]; omega
        have HFE : Hid (es ++ shE N (fs.take j) = besE N es fs) := by
          unfold Hid besE
          rw [List.take_of_length_le (by have := HKL.out; omega)]
        have HBF := hbo
        rw [HFE.out] at HBF
        have hnl : n2 = (besE N es fs).length := by
          obtain ⟨A', c', e', -⟩ := OwnE.read HBF.out.2.2.2.2.1
          injection e'
        subst hnl
        have hg3 : wr.heap[w.heap.size + 2]? = some (gcells 0 none 0 0) := (HBF.out.1.block _ (by omega)).trans HG.out.2.2
        have HEND : Hid (((wr.setCell ⟨w.heap.size + 2, 0, none⟩ (.int .i64 ((N : Int) + (K : Int)))).setCell ⟨w.heap.size + 2, 1, none⟩ (.slice A2 (besE N es fs).length c2)).heap[w.heap.size + 2]? = some (.cells #[.int .i64 ((N : Int) + (K : Int)), .slice A2 (besE N es fs).length c2] 26 (0, 0))) :=
          Go.Proofs.YtnldfjoadmehcaaW.PrintWords.blk_put (cs := #[.int .i64 ((N : Int) + (K : Int)), .slice none 0 0]) (Go.Proofs.YtnldfjoadmehcaaW.PrintWords.blk_put (cs := #[.int .i64 0, .slice none 0 0]) hg3 0 _ rfl) 1 _ rfl
        have HBEL : Hid (Below w.heap.size w ((wr.setCell ⟨w.heap.size + 2, 0, none⟩ (.int .i64 ((N : Int) + (K : Int)))).setCell ⟨w.heap.size + 2, 1, none⟩ (.slice A2 (besE N es fs).length c2))) := Below.setCell (Below.setCell (HB3.out.trans (HBF.out.1.mono (by omega))) (by show w.heap.size ≤ w.heap.size + 2; omega) _) (by show w.heap.size ≤ w.heap.size + 2; omega) _
        have HOWN : Hid (ReadE ((wr.setCell ⟨w.heap.size + 2, 0, none⟩ (.int .i64 ((N : Int) + (K : Int)))).setCell ⟨w.heap.size + 2, 1, none⟩ (.slice A2 (besE N es fs).length c2)) A2 (besE N es fs).length (besE N es fs)) := readE_own (own_set2 HBF.out.2.2.2.2.1 (by omega))
        obtain ⟨p0, p1, p2, p3⟩ := HBF.out.cells
        obtain ⟨r0, r1, r2, r3⟩ := blk_cells hg3
        clear hlt hj hg3 HFE
        go_wp2_with fail
        (try simp only [Exit.inBlock, Exit.then])
        refine bodyPost_ret (results_cell_row rfl _ _ (w.heap.size + 2) 26 #[.int .i64 ((N : Int) + (K : Int)), .slice A2 (besE N es fs).length c2] (0, 0) _ rfl HEND.out Try.underlying26 rfl (by kernel_rfl)) rfl ?_
        exact ⟨A2, c2, rfl, HOWN.out, HBEL.out⟩

end Go.Proofs.Ytnldfjoadmehcaa
