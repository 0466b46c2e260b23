/- What odd labels lack: as many as a largest matching leaves; session.match, by the engine single -/
import Derived.Test.YtbnipgajhpbolaaGreatDoorTe40
import Derived.Test.YtbnipgajhpbolaaGreatDoorTe44
import Derived.Test.YtbnipgajhpbolaaGreatDoorTe35
import Derived.Test.YtbnipgajhpbolaaGreatDoorTe43
import Derived.Test.YtbnipgajhpbolaaGreatDoorTe08
import Derived.Test.YtbnipgajhpbolaaGreatDoorTe09
set_option linter.unusedVariables false
set_option linter.unusedSimpArgs false
namespace Go.Proofs.YtbnipgajhpbolaaGreatDoor

section
open Go.RowKit
section
variable {N : Nat} {es : List Ed} {ms : List Int}
theorem even_set (hr : Rise N es) {C : Nat → Bool} (h : MatchN N es ms) (hc : ∀ v, v < N → C v = true → ∃ w : Nat, gi ms v = w ∧ C w = true) : (sel C N).length % 2 = 0 := by
  have e2 := rest_even hr (C := C) h
  have s2 : sel (fun v => C v && (decide (0 ≤ gi ms v) && C (gi ms v).toNat)) N = sel C N := sel_congr fun v hv => by
    cases q : C v
    · rfl
    · obtain ⟨w, k1, k2⟩ := hc v hv q
      rw [k1, Int.toNat_natCast, k2]
      simp
  rw [s2] at e2
  exact e2
theorem odd_set (hr : Rise N es) {C : Nat → Bool} {b : Nat} (h : MatchN N es ms) (hb : b < N) (cb : C b = true) (ho : ∀ w : Nat, gi ms b = w → C w = false) (hc : ∀ v, v < N → C v = true → v ≠ b → ∃ w : Nat, gi ms v = w ∧ C w = true) : (sel C N).length % 2 = 1 := by
  have e1 := rest_even hr (C := C) h
  have s1 := sel_or C (fun v => v == b) (fun v => C v && !(v == b)) (fun v => by
    by_cases q : v = b
    · subst q; simp [cb]
    · have : (v == b) = false := beq_eq_false_iff_ne.2 q
      rw [this]; simp) (fun v a => by rw [show (v == b) = true from a]; simp) N
  rw [sel_one, if_pos hb] at s1
  have s3 : sel (fun v => C v && (decide (0 ≤ gi ms v) && C (gi ms v).toNat)) N = sel (fun v => C v && !(v == b)) N := sel_congr fun v hv => by
    cases q : C v
    · rfl
    · by_cases e : v = b
      · subst e
        by_cases k : 0 ≤ gi ms v
        · have := ho (gi ms v).toNat (by omega)
          rw [this]; simp
        · rw [decide_eq_false k]; simp
      · have : (v == b) = false := beq_eq_false_iff_ne.2 e
        obtain ⟨w, k1, k2⟩ := hc v hv q e
        rw [this, k1, Int.toNat_natCast, k2]
        simp
  rw [s3] at e1
  omega
theorem sel_mem_len {p : List Int} (hn : p.Nodup) (hp : ∀ x ∈ p, ∃ z : Nat, z < N ∧ x = z) : (sel (inL p) N).length = p.length := by
  have h1 := pigeon (R := fun x y => x = y) (L := sel (inL p) N) (L' := p) (sel_nodup _ _) (fun x hx => by
    obtain ⟨j, hj, e, rfl⟩ := mem_sel.1 hx
    exact ⟨_, inL_nat.1 e, rfl⟩) (fun x hx x' hx' y h1 h2 => h1.trans h2.symm)
  have h2 := pigeon (R := fun x y => x = y) (L := p) (L' := sel (inL p) N) hn (fun x hx => by
    obtain ⟨z, hz, rfl⟩ := hp x hx
    exact ⟨_, mem_sel.2 ⟨z, hz, inL_nat.2 hx, rfl⟩, rfl⟩) (fun x hx x' hx' y h1 h2 => h1.trans h2.symm)
  omega
/-- The odd ones, by their places. -/
def oddAt (L : List (List Int)) (j : Nat) : Bool := decide ((L.getD j []).length % 2 = 1)
theorem oddN_sel (L : List (List Int)) : ∀ k, k ≤ L.length → oddN (L.take k) = (sel (oddAt L) k).length
  | 0, _ => rfl
  | k + 1, hk => by
    rw [oddN_take (by omega), oddN_sel L k (by omega), sel]
    have e : L.getD k [] = L[k] := by rw [List.getD_eq_getElem?_getD, List.getElem?_eq_getElem (by omega)]; rfl
    unfold oddAt
    rw [e]
    by_cases q : L[k].length % 2 = 1
    · rw [if_pos (by simp [q]), List.length_append, List.length_singleton, q]
    · rw [if_neg (by simp [q])]
      omega
end

section
variable {N : Nat} {es : List Ed} {ms l p : List Int} {L : List (List Int)} {t : Fo} {d0 dd : Nat → Bool}
/-- Two that are joined are in one piece. -/
theorem PcA.join {v : Nat} (hr : Rise N es) (a : PcA (fun v => nearV es v) d0 N v dd L) (hp : p ∈ L) {x y : Nat} (h : JV es x y) (hx : d0 x = false) (hy : d0 y = false) : (x : Int) ∈ p ↔ (y : Int) ∈ p := by
  constructor
  · intro k
    have := a.clo p hp _ k (y : Int) (by rw [Int.toNat_natCast]; exact h)
    rw [Int.toNat_natCast, hy] at this
    exact this.resolve_left (by simp)
  · intro k
    have := a.clo p hp _ k (x : Int) (by rw [Int.toNat_natCast]; exact near_symm h)
    rw [Int.toNat_natCast, hx] at this
    exact this.resolve_left (by simp)
theorem PcA.way {v : Nat} (hr : Rise N es) (hm : MtOk N (JV es) (gi ms)) (a : PcA (fun v => nearV es v) d0 N v dd L) (hp : p ∈ L) {x c : Nat} {q : List Int} (h : AW N (JV es) (gi ms) x c q) : (∀ y ∈ q, d0 y.toNat = false) → ((x : Int) ∈ p ↔ (c : Int) ∈ p) := by
  induction h with
  | here _ => exact fun _ => Iff.rfl
  | @step x m u c q h1 h2 h3 h4 ih =>
    intro hd
    have dx : d0 x = false := by have := hd (x : Int) (by simp); rwa [Int.toNat_natCast] at this
    have dm : d0 m = false := by have := hd (m : Int) (by simp); rwa [Int.toNat_natCast] at this
    have du : d0 u = false := by
      have hu : (u : Int) ∈ q := by cases h4 <;> simp
      have := hd (u : Int) (by simp [hu]); rwa [Int.toNat_natCast] at this
    obtain ⟨-, -, j1, -⟩ := hm.back h1 h2
    exact (a.join hr hp j1 dx dm).trans ((a.join hr hp h3 dm du).trans (ih fun y hy => hd y (by simp [hy])))

/-- A piece of what is left without the inner ones: a blossom, or vertices that were not come to. -/
theorem piece_kind (hr : Rise N es) (h : MatchN N es ms) (hi : FoI N (JV es) (gi ms) t) (hd : t.Done N (JV es)) (hD : ∀ j, j < N → d0 j = t.inn j) (a : PcA (fun v => nearV es v) d0 N N dd L) (hp : p ∈ L) :
    (p.length % 2 = 1 ∧ ∃ b : Nat, (b : Int) ∈ p ∧ b < N ∧ t.ou b = true ∧ t.B b = b ∧ ∀ z : Nat, (z : Int) ∈ p → t.ou z = true ∧ t.B z = b) ∨ (p.length % 2 = 0 ∧ ∀ z : Nat, (z : Int) ∈ p → t.ou z = false) := by
  have hm := jv_ok hr h
  obtain ⟨pn, pl⟩ := a.lt p hp
  have pl' : ∀ x ∈ p, ∃ z : Nat, z < N ∧ x = z := fun x hx => by obtain ⟨z, h1, h2, -⟩ := pl x hx; exact ⟨z, h1, h2⟩
  obtain ⟨r, hrp, hcon⟩ := a.con p hp
  obtain ⟨r', hrN, e, hrd⟩ := pl _ hrp
  obtain rfl : r = r' := by omega
  have nD : ∀ w, w < N → d0 w = false → t.ou w = false → t.lab w = 0 := fun w hw hn ho => by
    rw [hD w hw, Fo.inn, ho] at hn
    rcases hi.lab w hw with k | k | k
    · exact k
    · rw [(hi.ev w hw k).1] at ho; cases ho
    · rw [k] at hn; simp at hn
  have dO : ∀ w, w < N → t.ou w = true → d0 w = false := fun w hw ho => by rw [hD w hw, Fo.inn, ho]; simp
  by_cases ho : t.ou r = true
  · left
    have hall : ∀ x ∈ p, x.toNat < N ∧ t.ou x.toNat = true ∧ t.B x.toNat = t.B r := hcon (fun w => w < N ∧ t.ou w = true ∧ t.B w = t.B r) ⟨hrN, ho, rfl⟩ fun u w ⟨q1, q2, q3⟩ hw hdw => by
      have hj : JV es u w := hw
      have hwN := (hm.lt _ _ hj).2.1
      obtain ⟨k1, k2⟩ := hd u w q1 q2 hj
      cases ow : t.ou w
      · exact absurd (nD w hwN hdw ow) k1
      · exact ⟨hwN, rfl, (k2 ow).symm.trans q3⟩
    have hb := hi.bo r hrN ho
    have hbN := hi.bN r hrN
    have toB : ∀ z, z < N → t.ou z = true → ((z : Int) ∈ p ↔ (t.B z : Int) ∈ p) := fun z hz oz => by
      obtain ⟨b1, b2, b3, b4, q, b5, b6⟩ := hi.bo z hz oz
      refine a.way hr hm hp (b5.aw hm hi hz) fun y hy => ?_
      rcases List.mem_append.1 hy with hy | hy
      · obtain ⟨y', c1, rfl, c3, -⟩ := b6 y hy
        rw [Int.toNat_natCast]
        exact dO y' c1 c3
      · have : y = (t.B z : Int) := by simpa using hy
        rw [this, Int.toNat_natCast]
        exact dO _ (hi.bN z hz) b1
    have hbp : (t.B r : Int) ∈ p := (toB r hrN ho).1 hrp
    have hC : ∀ z, z < N → (inL p z = true ↔ t.ou z = true ∧ t.B z = t.B r) := fun z hz => by
      rw [inL_nat]
      constructor
      · intro k
        have := hall _ k
        rw [Int.toNat_natCast] at this
        exact this.2
      · rintro ⟨k1, k2⟩
        refine (toB z hz k1).2 ?_
        rw [k2]; exact hbp
    refine ⟨?_, t.B r, hbp, hbN, hb.1, hb.2.1, fun z hz => by have := hall _ hz; rw [Int.toNat_natCast] at this; exact this.2⟩
    rw [← sel_mem_len pn pl']
    refine odd_set hr h hbN (inL_nat.2 hbp) (fun w e => ?_) (fun v hv cv hne => ?_)
    · have hwN := (hm.back hbN e).1
      have ow := hi.bas _ hbN hb.1 hb.2.1 w e
      cases q : inL p w
      · rfl
      · have := ((hC w hwN).1 q).1
        rw [ow] at this
        cases this
    · obtain ⟨k1, k2⟩ := (hC v hv).1 cv
      have hBv : t.B v ≠ v := fun e => hne (by rw [← e]; exact k2)
      rcases hm.mate v hv with q | ⟨w, q1, q2, -, -⟩
      · exact absurd (hi.rootB hv q).2 hBv
      · obtain ⟨c1, c2⟩ := hi.clo v hv k1 hBv w q2
        exact ⟨w, q2, (hC w q1).2 ⟨c1, c2.trans k2⟩⟩
  · right
    have ho' : t.ou r = false := by simpa using ho
    have hall : ∀ x ∈ p, x.toNat < N ∧ t.ou x.toNat = false ∧ t.lab x.toNat = 0 := hcon (fun w => w < N ∧ t.ou w = false ∧ t.lab w = 0) ⟨hrN, ho', nD r hrN hrd ho'⟩ fun u w ⟨q1, q2, q3⟩ hw hdw => by
      have hj : JV es u w := hw
      have hwN := (hm.lt _ _ hj).2.1
      cases ow : t.ou w
      · exact ⟨hwN, rfl, nD w hwN hdw ow⟩
      · exact absurd q3 (hd w u hwN ow (hm.sym _ _ hj)).1
    refine ⟨?_, fun z hz => by have := hall _ hz; rw [Int.toNat_natCast] at this; exact this.2.1⟩
    rw [← sel_mem_len pn pl']
    refine even_set hr h fun v hv cv => ?_
    have hvp := inL_nat.1 cv
    have h1 := hall _ hvp
    rw [Int.toNat_natCast] at h1
    obtain ⟨-, -, x, hx, hmx, hlx⟩ := hi.out v hv h1.2.2
    refine ⟨x, hmx, inL_nat.2 ((a.join hr hp (hm.back hv hmx).2.2.1 ?_ ?_).1 hvp)⟩
    · rw [hD v hv, Fo.inn, h1.2.2]; rfl
    · rw [hD x hx, Fo.inn, hlx]; rfl

theorem FoI.fewer (hm : MtOk N (JV es) (gi ms)) (hi : FoI N (JV es) (gi ms) t) : (sel t.bas N).length ≤ (sel (freeB ms) N).length + (sel t.inn N).length := by
  have : (sel t.bas N).length ≤ (sel (freeB ms) N ++ sel t.inn N).length := by
    refine pigeon (R := fun x y => ∃ b : Nat, b < N ∧ x = b ∧ ((gi ms b = -1 ∧ y = x) ∨ ∃ m : Nat, gi ms b = m ∧ y = m)) (sel_nodup _ _) (fun x hx => ?_) (fun x hx x' hx' y h1 h2 => ?_)
    · obtain ⟨b, hb, k, rfl⟩ := mem_sel.1 hx
      simp only [Fo.bas, Bool.and_eq_true, beq_iff_eq] at k
      obtain ⟨k1, k2⟩ := k
      have hb1 := (hi.bo b hb k1).2.2.1
      rw [k2] at hb1
      rcases (hi.ev b hb hb1).2 with q | ⟨m, q1, q2, q3⟩
      · exact ⟨b, List.mem_append.2 (.inl (mem_sel.2 ⟨b, hb, by simp [freeB, q], rfl⟩)), b, hb, rfl, .inl ⟨q, rfl⟩⟩
      · refine ⟨m, List.mem_append.2 (.inr (mem_sel.2 ⟨m, q1, ?_, rfl⟩)), b, hb, rfl, .inr ⟨m, q2, rfl⟩⟩
        simp [Fo.inn, q3, hi.bas b hb k1 k2 m q2]
    · obtain ⟨b, hb, rfl, k1⟩ := h1
      obtain ⟨b', hb', rfl, k2⟩ := h2
      rcases k1 with ⟨a1, rfl⟩ | ⟨m, a1, rfl⟩
      · rcases k2 with ⟨c1, c2⟩ | ⟨m', c1, c2⟩
        · exact c2
        · have := (hm.back hb' c1).2.1
          obtain rfl : b = m' := by omega
          omega
      · rcases k2 with ⟨c1, c2⟩ | ⟨m', c1, c2⟩
        · have := (hm.back hb a1).2.1
          obtain rfl : m = b' := by omega
          omega
        · obtain rfl : m = m' := by omega
          have h1 := (hm.back hb a1).2.1
          have h2 := (hm.back hb' c1).2.1
          omega
  rwa [List.length_append] at this
/-- The inner ones lack as many as are free. -/
theorem lack_free (hr : Rise N es) (h : MatchN N es ms) (q : LabQ N es ms l) : lackP N es (suchL l 2 N) = (sel (freeB ms) N).length := by
  obtain ⟨t, hi, hd, hl, hlab⟩ := q
  have hm := jv_ok hr h
  have hsuch : suchL l 2 N = sel t.inn N := by
    unfold suchL
    refine sel_congr fun j hj => ?_
    rw [hlab j hj, Fo.inn]
    cases t.ou j
    · simp [BEq.beq]
    · simp
  have hD : ∀ j, j < N → inL (suchL l 2 N) j = t.inn j := fun j hj => by
    rw [Bool.eq_iff_iff, inL_nat, hsuch, mem_sel_nat]
    exact ⟨fun k => k.2, fun k => ⟨hj, k⟩⟩
  have a := pcAll (near := fun v => nearV es v) (N := N) (d0 := inL (suchL l 2 N)) (fun u w hu hw => near_symm hw) (fun u hu x hx => by
    obtain ⟨q1, q2, -⟩ := near_in hr hx
    exact ⟨x.toNat, by omega, by omega⟩) N (Nat.le_refl _)
  generalize hL : (Pc.all (fun v => nearV es v) N (inL (suchL l 2 N)) N).2 = L at *
  generalize (Pc.all (fun v => nearV es v) N (inL (suchL l 2 N)) N).1 = dd at *
  have kind := fun (p : List Int) (hp : p ∈ L) => piece_kind hr h hi hd hD a hp
  have getL : ∀ j, j < L.length → L.getD j [] ∈ L ∧ ∀ (hj : j < L.length), L.getD j [] = L[j] := fun j hj => by
    have e : L.getD j [] = L[j] := by rw [List.getD_eq_getElem?_getD, List.getElem?_eq_getElem hj]; rfl
    exact ⟨by rw [e]; exact List.getElem_mem _, fun _ => e⟩
  have hodd : oddN L = (sel (oddAt L) L.length).length := by
    have := oddN_sel L L.length (Nat.le_refl _)
    rwa [List.take_length] at this
  have p1 : (sel (oddAt L) L.length).length ≤ (sel t.bas N).length := by
    refine pigeon (R := fun x y => ∃ j : Nat, j < L.length ∧ x = j ∧ y ∈ L.getD j []) (sel_nodup _ _) (fun x hx => ?_) (fun x hx x' hx' y h1 h2 => ?_)
    · obtain ⟨j, hj, e, rfl⟩ := mem_sel.1 hx
      rcases kind _ (getL j hj).1 with ⟨-, b, b1, b2, b3, b4, -⟩ | ⟨k, -⟩
      · exact ⟨b, mem_sel.2 ⟨b, b2, by simp [Fo.bas, b3, b4], rfl⟩, j, hj, rfl, b1⟩
      · unfold oddAt at e
        simp at e
        simp at k
        omega
    · obtain ⟨j, hj, rfl, k1⟩ := h1
      obtain ⟨j', hj', rfl, k2⟩ := h2
      rw [(getL j hj).2 hj] at k1
      rw [(getL j' hj').2 hj'] at k2
      have hpw := List.pairwise_iff_getElem.1 a.dis
      rcases Nat.lt_trichotomy j j' with c | c | c
      · exact absurd k2 (hpw j j' hj hj' c y k1)
      · rw [c]
      · exact absurd k1 (hpw j' j hj' hj c y k2)
  have p2 : (sel t.bas N).length ≤ (sel (oddAt L) L.length).length := by
    refine pigeon (R := fun x y => ∃ j b : Nat, j < L.length ∧ y = j ∧ x = b ∧ t.B b = b ∧ t.ou b = true ∧ x ∈ L.getD j []) (sel_nodup _ _) (fun x hx => ?_) (fun x hx x' hx' y h1 h2 => ?_)
    · obtain ⟨b, hb, k, rfl⟩ := mem_sel.1 hx
      simp only [Fo.bas, Bool.and_eq_true, beq_iff_eq] at k
      have hnd : inL (suchL l 2 N) b = false := by rw [hD b hb, Fo.inn, k.1]; simp
      rcases (a.dn b).1 (a.all b hb) with c | ⟨p, hp, c⟩
      · rw [hnd] at c; cases c
      · obtain ⟨j, hj, rfl⟩ := List.mem_iff_getElem.1 hp
        rw [← (getL j hj).2 hj] at c hp
        refine ⟨j, mem_sel.2 ⟨j, hj, ?_, rfl⟩, j, b, hj, rfl, rfl, k.2, k.1, c⟩
        rcases kind _ hp with ⟨k1, -⟩ | ⟨-, k2⟩
        · unfold oddAt; simpa using k1
        · have := k2 b c
          rw [k.1] at this
          cases this
    · obtain ⟨j, b, hj, rfl, rfl, e1, e2, k1⟩ := h1
      obtain ⟨j', b', hj', e, rfl, e3, e4, k2⟩ := h2
      obtain rfl : j = j' := by omega
      rcases kind _ (getL j hj).1 with ⟨-, c, -, -, -, -, c5⟩ | ⟨-, k⟩
      · have h1 := (c5 b k1).2
        have h2 := (c5 b' k2).2
        omega
      · have := k b k1
        rw [e2] at this
        cases this
  have p3 := hi.fewer hm
  have p4 := FoI.many (es := es) (ms := ms) hm hi (fun _ _ => rfl)
  unfold lackP
  rw [hL, hodd]
  rw [hsuch]
  omega
/-- The set of odd labels shows it. -/
theorem lack_shows {ms' : List Int} {t' : Fo} (hr : Rise N es) (h : MatchN N es ms) (q : LabQ N es ms l) (h' : MatchN N es ms') (i' : FoI N (JV es) (gi ms') t') (d' : t'.Done N (JV es)) : 2 * ((edgesM ms').length : Int) = N - lackP N es (suchL l 2 N) := by
  rw [lack_free hr h q]
  obtain ⟨t, hi, hd, -, -⟩ := q
  have h1 := top_same hr h h' hi hd i' d'
  have h2 := match_count hr h
  omega
end
end

section
open Go.RowKit
/-- An answer that tells a largest matching's size. -/
def MatchA (N : Nat) (es : List Ed) (cs : Array Value) : Prop := ∃ ms t x y, MatchN N es ms ∧ FoI N (JV es) (gi ms) t ∧ t.Done N (JV es) ∧ cs = #[.int .i64 0, .int .i64 (edgesM ms).length, x, y, .slice none 0 0, .bool false]

set_option maxHeartbeats 16000000 in
set_option maxRecDepth 100000 in
theorem match_any {S N : Nat} {es : List Ed} {b : Int} (w : World) (h : SS S N es w) (hr : rightB N es = true) : Calls Tryz.prog 98 #[.pointer (some ⟨S, 0, none⟩), .agg #[.int .i64 6, .int .i64 1, .int .i64 b, .slice none 0 0]] w (SessQ S N es (MatchA N es) w) := by
  have b1 := bel_alloc w (.cells #[.int .i64 6, .int .i64 1, .int .i64 b, .slice none 0 0] 111)
  have hz : (w.alloc (.cells #[.int .i64 6, .int .i64 1, .int .i64 b, .slice none 0 0] 111)).heap.size = w.heap.size + 1 := by simp
  have n0 := heap_alloc_new w (.cells #[.int .i64 6, .int .i64 1, .int .i64 b, .slice none 0 0] 111)
  have n1 := heap_alloc_new (w.alloc (.cells #[.int .i64 6, .int .i64 1, .int .i64 b, .slice none 0 0] 111)) (.cells (ansC 0 0) 36)
  have b2 := bel_alloc (w.alloc (.cells #[.int .i64 6, .int .i64 1, .int .i64 b, .slice none 0 0] 111)) (.cells (ansC 0 0) 36)
  rw [hz] at n1
  have n0' := blk_later n0 b2
  have HB := Lib.hid (And.intro n0' (And.intro n1 (bel_trans b1 b2)))
  have HR := Lib.hid hr
  have hs2 := h.later HB.out.2.2
  have HLT := Lib.hid h.lt
  obtain ⟨v, hv1, hv2⟩ := hs2
  obtain ⟨A, c, rfl, -, -, rd⟩ := OwnE.read hv2
  have HV := Lib.hid (And.intro hv1 (And.intro hv2 rd))
  have HW2 : Hid (((w.alloc (.cells #[.int .i64 6, .int .i64 1, .int .i64 b, .slice none 0 0] 111)).alloc (.cells (ansC 0 0) 36)) = ((w.alloc (.cells #[.int .i64 6, .int .i64 1, .int .i64 b, .slice none 0 0] 111)).alloc (.cells #[.int .i64 0, .int .i64 0, .slice none 0 0, .slice none 0 0, .slice none 0 0, .bool false] 36))) := rfl
  have HS := Lib.hid h
  clear h hr b1 b2 hz n0 n1 n0' hv2 rd
  rw [HW2.out] at hv1
  have c0 := (cell_blk hv1 0).trans (show _ = some (Value.int .i64 N) from rfl)
  have c1 := (cell_blk hv1 1).trans (show _ = some (Value.slice A es.length c) from rfl)
  go_enter Tryz.func98, Tryz.ntmps98
  go_wp2_with fail
  rw [HW2.out] at HB HV
  clear HW2 hv1
  generalize hw2 : ((w.alloc (.cells #[.int .i64 6, .int .i64 1, .int .i64 b, .slice none 0 0] 111)).alloc (.cells #[.int .i64 0, .int .i64 0, .slice none 0 0, .slice none 0 0, .slice none 0 0, .bool false] 36)) = w2 at *
  clear hw2
  -- the matching
  have hla := slargest_any (c := c) (N := N) w2 HV.out.2.2 HR.out
  refine hla.mono ?_
  rintro e w3 ⟨mv, rd, lk, ms, t, rfl, o3, m3, hb3, -, -, -, -, i3, d3⟩
  have hba := bel_alloc w3 (.cells #[.int .i64 rd, .int .i64 lk] 50)
  have HB4 := Lib.hid (bel_trans hb3 hba)
  have HO4 := Lib.hid (own_later o3 hba)
  have HM := Lib.hid (And.intro m3 (And.intro i3 d3))
  have d1 : (w3.alloc (.cells #[.int .i64 rd, .int .i64 lk] 50)).cell? ⟨w.heap.size, 1, none⟩ = some (.int .i64 1) := (cell_blk (blk_later HB.out.1 HB4.out) 1).trans rfl
  have hv4 := blk_later HV.out.1 HB4.out
  have e0 := (cell_blk hv4 0).trans (show _ = some (Value.int .i64 N) from rfl)
  have e1 := (cell_blk hv4 1).trans (show _ = some (Value.slice A es.length c) from rfl)
  have hbo := bof_any (c := c) (N := N) (w3.alloc (.cells #[.int .i64 rd, .int .i64 lk] 50)) (HV.out.2.2.below HB4.out) HR.out
  clear hla o3 m3 hb3 i3 d3 hba hv4 c0 c1
  go_wp2_with fail
  refine hbo.mono ?_
  rintro e w5 ⟨ov, l, ms', rfl, o5, m5, q5, hb5⟩
  have HB5 := Lib.hid (bel_trans HB4.out hb5)
  have HO5 := Lib.hid (And.intro (own_later HO4.out hb5) o5)
  have hri := (rightB_iff.1 HR.out).2.2.2
  have HSH := Lib.hid (lack_shows hri m5 q5 HM.out.1 HM.out.2.1 HM.out.2.2)
  have hv5 := blk_later HV.out.1 HB5.out
  have c0 := (cell_blk hv5 0).trans (show _ = some (Value.int .i64 N) from rfl)
  have c1 := (cell_blk hv5 1).trans (show _ = some (Value.slice A es.length c) from rfl)
  have hce := certm_any (c := c) w5 (HV.out.2.2.below HB5.out) (rightM_iff.2 ⟨HR.out, HM.out.1⟩) HO5.out.1 HO5.out.2 suchL_set HSH.out
  clear hbo o5 m5 q5 hb5 e0 e1 d1 hri hv5
  go_wp2_with fail
  refine hce.mono ?_
  rintro e w6 ⟨rfl, hb6⟩
  have HB6 := Lib.hid (bel_trans HB5.out hb6)
  have ho6 := own_later HO5.out.1 hb6
  clear c0 c1 hce hb6
  have hmr : ∃ B d, mv = .slice B ms.length d ∧ ReadI w6 B ms.length ms := by
    obtain ⟨B, d, e, -, -, r⟩ := OwnI.read ho6
    exact ⟨B, d, e, r⟩
  obtain ⟨B, d, rfl, hmr⟩ := hmr
  have HMR := Lib.hid hmr
  have HLN : Hid (ms.length ≤ 1000000) := by
    have h1 := HM.out.1.1
    obtain ⟨r1, r2, -⟩ := rightB_iff.1 HR.out
    unfold Hid; omega
  have hms := msize_any (c := d) w6 HMR.out HLN.out
  clear hmr ho6
  go_wp2_with fail
  refine hms.mono ?_
  rintro e w7 ⟨rfl, hb7⟩
  have hme := medges_any (c := d) w7 (HMR.out.below hb7) HLN.out
  have HB7 := Lib.hid (bel_trans HB6.out hb7)
  clear hms hb7
  go_wp2_with fail
  refine hme.mono ?_
  rintro e w8 ⟨ev, rfl, oe8, hb8⟩
  obtain ⟨AE, cE, rfl, -, -, -⟩ := OwnE.read oe8
  obtain ⟨AB, cB, nB, rfl⟩ := OwnI.shape HO5.out.2
  have HB9 := Lib.hid (bel_trans (bel_trans HB7.out hb8) (bel_alloc w8 (.cells #[.slice AB cB nB] 22)))
  have HA9 := Lib.hid (blk_later HB.out.2.1 HB9.out)
  have HS9 : Hid (SS S N es (w8.alloc (.cells #[.slice AB cB nB] 22))) := HS.out.later (bel_trans HB.out.2.2 HB9.out)
  have HM9 := Lib.hid (bel_trans HB.out.2.2 HB9.out)
  clear hme hb8 oe8
  have h1b : (#[.int .i64 0, .int .i64 (edgesM ms).length, .slice AE (edgesM ms).length cE, .slice (some ⟨w8.heap.size, 0, none⟩) 1 1, .slice none 0 0, .bool false] : Array Value).all (·.oneCell') = true := by simp [Value.oneCell']
  go_wp2_with (refine wpList_store_rowTo rfl 36 (.tmp 4) (.tmp 57) rfl rfl (w.heap.size + 1) #[.int .i64 0, .int .i64 (edgesM ms).length, .slice AE (edgesM ms).length cE, .slice (some ⟨w8.heap.size, 0, none⟩) 1 1, .slice none 0 0, .bool false] rfl rfl 36 _ HA9.out infoAns rfl h1b ?_)
  have hlt := HLT.out
  have HEND : Hid (((w8.alloc (.cells #[.slice AB cB nB] 22)).setRow (w.heap.size + 1) #[.int .i64 0, .int .i64 (edgesM ms).length, .slice AE (edgesM ms).length cE, .slice (some ⟨w8.heap.size, 0, none⟩) 1 1, .slice none 0 0, .bool false]).heap[w.heap.size + 1]? = some (.cells #[.int .i64 0, .int .i64 (edgesM ms).length, .slice AE (edgesM ms).length cE, .slice (some ⟨w8.heap.size, 0, none⟩) 1 1, .slice none 0 0, .bool false] 36 (0, 0)) ∧ SS S N es ((w8.alloc (.cells #[.slice AB cB nB] 22)).setRow (w.heap.size + 1) #[.int .i64 0, .int .i64 (edgesM ms).length, .slice AE (edgesM ms).length cE, .slice (some ⟨w8.heap.size, 0, none⟩) 1 1, .slice none 0 0, .bool false]) ∧ Mov (KS S) w (KS S) ((w8.alloc (.cells #[.slice AB cB nB] 22)).setRow (w.heap.size + 1) #[.int .i64 0, .int .i64 (edgesM ms).length, .slice AE (edgesM ms).length cE, .slice (some ⟨w8.heap.size, 0, none⟩) 1 1, .slice none 0 0, .bool false])) := by
    refine ⟨setRow_heap _ _ _ _ _ _ HA9.out, HS9.out.setRow HA9.out, ?_⟩
    have m := Mov.of (K := KS S) HM9.out
    exact ⟨m.os, m.tape, m.output, by rw [setRow_size]; exact m.size, fun k hk hn => (setRow_other _ _ _ _ (by omega)).trans (m.block k hk hn), m.new⟩
  (try simp only [Exit.inBlock, Exit.then])
  refine bodyPost_ret (results_cell_row (by rfl) _ _ (w.heap.size + 1) 36 #[.int .i64 0, .int .i64 (edgesM ms).length, .slice AE (edgesM ms).length cE, .slice (some ⟨w8.heap.size, 0, none⟩) 1 1, .slice none 0 0, .bool false] (0, 0) _ (by rfl) HEND.out.1 Tryz.underlying36 rfl (by kernel_rfl)) (by rfl) ?_
  exact ⟨_, rfl, rfl, h1b, ⟨ms, t, _, _, HM.out.1, HM.out.2.1, HM.out.2.2, rfl⟩, HEND.out.2.1, HEND.out.2.2⟩
end

end Go.Proofs.YtbnipgajhpbolaaGreatDoor
