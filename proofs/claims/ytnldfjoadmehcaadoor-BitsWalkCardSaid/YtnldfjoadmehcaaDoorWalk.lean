/- The walk of the law that goes from number to number. -/
import Derived.Test.YtnldfjoadmehcaaDoorCommon
set_option linter.unusedVariables false
set_option linter.unusedSimpArgs false
namespace Go.Proofs.YtnldfjoadmehcaaDoor
open Go.RowKit Bs

theorem nodup_sub_len : ∀ (l l' : List Int), l.Nodup → (∀ z ∈ l, z ∈ l') → l.length ≤ l'.length
  | [], _, _, _ => Nat.zero_le _
  | a :: l, l', hn, hs => by
    rw [List.nodup_cons] at hn
    have ha := hs a (List.mem_cons_self ..)
    have ih := nodup_sub_len l (l'.erase a) hn.2 fun z hz => (List.mem_erase_of_ne (by rintro rfl; exact hn.1 hz)).2 (hs z (List.mem_cons_of_mem _ hz))
    rw [List.length_erase_of_mem ha] at ih
    have : 0 < l'.length := List.length_pos_of_mem ha
    simp only [List.length_cons]
    omega

theorem len_memF (room : Nat) (xs : List Int) : (listOf (memF room xs) room).length ≤ xs.length :=
  nodup_sub_len _ _ (nodup_listOf _ _) fun z hz => by
    obtain ⟨h0, _, h2⟩ := (mem_listOf _ _ z).1 hz
    simp only [memF, decide_eq_true_eq] at h2
    rw [show ((z.toNat : Nat) : Int) = z from by omega] at h2
    exact h2.2

theorem uint_mod (ix : Int) (N : Nat) (h0 : 0 < N) (h1 : N ≤ 60) : ∃ k : Nat, k < N ∧ wrap64 ((IntKind.u64.wrap ix).tmod (N : Int)) = (k : Int) := by
  rw [IntKind.wrap_u64, Int.tmod_eq_emod_of_nonneg (by omega)]
  have a1 : 0 ≤ ix % 18446744073709551616 % (N : Int) := Int.emod_nonneg _ (by omega)
  have a2 : ix % 18446744073709551616 % (N : Int) < N := Int.emod_lt_of_pos _ (by omega)
  refine ⟨(ix % 18446744073709551616 % (N : Int)).toNat, by omega, ?_⟩
  unfold wrap64
  omega

theorem sorted_ext : ∀ (l l' : List Int), l.Pairwise (· < ·) → l'.Pairwise (· < ·) → (∀ z, z ∈ l ↔ z ∈ l') → l = l'
  | [], [], _, _, _ => rfl
  | [], b :: l', _, _, h => absurd ((h b).2 (List.mem_cons_self ..)) (by simp)
  | a :: l, [], _, _, h => absurd ((h a).1 (List.mem_cons_self ..)) (by simp)
  | a :: l, b :: l', h1, h2, h => by
    rw [List.pairwise_cons] at h1 h2
    have e : a = b := by
      rcases List.mem_cons.1 ((h a).1 (List.mem_cons_self ..)) with e | e
      · exact e
      · rcases List.mem_cons.1 ((h b).2 (List.mem_cons_self ..)) with e' | e'
        · exact e'.symm
        · have := h2.1 a e
          have := h1.1 b e'
          omega
    subst e
    rw [sorted_ext l l' h1.2 h2.2 fun z => ?_]
    constructor
    · intro hz
      rcases List.mem_cons.1 ((h z).1 (List.mem_cons_of_mem _ hz)) with e | e
      · subst e
        have := h1.1 z hz
        omega
      · exact e
    · intro hz
      rcases List.mem_cons.1 ((h z).2 (List.mem_cons_of_mem _ hz)) with e | e
      · subst e
        have := h2.1 z hz
        omega
      · exact e

theorem walk_del (f : Nat → Bool) (xs : List Int) (k : Nat) (hk : k < xs.length) (h : xs = listOf f 500) : listOf (delF (delF f (gi xs k)) (gi xs k)) 500 = xs.take k ++ xs.drop (k + 1) := by
  have hs : xs.Pairwise (· < ·) := by rw [h]; exact sorted_listOf f 500
  have hsplit : xs = xs.take k ++ gi xs k :: xs.drop (k + 1) := by
    have : xs.drop k = gi xs k :: xs.drop (k + 1) := by
      rw [List.drop_eq_getElem_cons hk]
      simp [gi, List.getD_eq_getElem?_getD, hk]
    rw [← this, List.take_append_drop]
  have hs2 := hs
  rw [hsplit, List.pairwise_append] at hs2
  obtain ⟨p1, p2, p3⟩ := hs2
  rw [List.pairwise_cons] at p2
  apply sorted_ext
  · exact sorted_listOf _ _
  · rw [List.pairwise_append]
    exact ⟨p1, p2.2, fun a ha b hb => p3 a ha b (List.mem_cons_of_mem _ hb)⟩
  · intro z
    have hm := mem_listOf f 500 z
    rw [← h] at hm
    rw [mem_listOf]
    generalize hy : gi xs k = y at *
    have hz : z ∈ xs ↔ z ∈ xs.take k ∨ z = y ∨ z ∈ xs.drop (k + 1) := by
      constructor
      · intro h1
        rw [hsplit] at h1
        simpa using h1
      · intro h1
        rw [hsplit]
        simpa using h1
    rw [List.mem_append]
    constructor
    · rintro ⟨h0, h1, h2⟩
      simp only [delF, Bool.and_eq_true, Bool.not_eq_true', decide_eq_false_iff_not] at h2
      rcases hz.1 (hm.2 ⟨h0, h1, h2.1.1⟩) with h3 | h3 | h3
      · exact .inl h3
      · exfalso
        apply h2.2
        omega
      · exact .inr h3
    · intro h1
      have h2 : z ∈ xs := hz.2 (by rcases h1 with h1 | h1 <;> simp [h1])
      obtain ⟨h3, h4, h5⟩ := hm.1 h2
      refine ⟨h3, h4, ?_⟩
      have hne : z ≠ y := by
        rintro rfl
        rcases h1 with h1 | h1
        · have := p3 z h1 z (List.mem_cons_self ..)
          omega
        · have := p2.1 z h1
          omega
      have : ¬ ((z.toNat : Nat) : Int) = y := by omega
      simp [delF, h5, this]
      omega

theorem plain_true {A B : Option Addr} {n m ca cb : Nat} {xs : List Int} (w : World) (ha : ReadI w A n xs) (hb : ReadI w B m xs) :
    Calls Tryd.prog 14 #[.slice A n ca, .slice B m cb] w fun e w' => e = .returned (.bool true) ∧ Drawn w w' := by
  have h := plain_any (ca := ca) (cb := cb) w ha hb
  simp only [decide_true] at h
  exact h

/-- What lives on through the last statement. -/
structure St (w : World) (b o N : Nat) (xs : List Int) (w' : World) : Prop where
  read : ReadI w' (some ⟨b, o, none⟩) N xs
  bel : Below w.heap.size w w'

theorem St.app {w W w8 : World} {b o N k : Nat} {y : Int} {xs : List Int} {row : Option Nat} (g : W.grownBy w8 row) (s : W.cell? ⟨b, o + k, none⟩ = some (.int .i64 y) ∧ St w b o N xs W) (hne : some b ≠ row) (hl : ∀ k, row = some k → w.heap.size ≤ k) :
    w8.cell? ⟨b, o + k, none⟩ = some (.int .i64 y) ∧ St w b o N xs w8 := by
  obtain ⟨hc, hr, hb⟩ := s
  refine ⟨g.cell hc hne, hr.grown g fun b' o' e => ?_, hb.grown g hb.size hl⟩
  injection e with e
  injection e with e1 e2
  subst e1
  exact hne

theorem St.word {w W w8 : World} {b o N k h : Nat} {y : Int} {xs : List Int} (g : W.grownBy w8 (some h)) (s : W.cell? ⟨b, o + k, none⟩ = some (.int .i64 y) ∧ St w b o N xs W) (hne : some b ≠ some h) (hl : w.heap.size ≤ h) :
    w8.cell? ⟨b, o + k, none⟩ = some (.int .i64 y) ∧ St w b o N xs w8 := St.app g s hne fun k hk => by
  injection hk with hk
  omega

theorem St.later {w W w8 : World} {b o N k : Nat} {y : Int} {xs : List Int} (g : Below W.heap.size W w8) (s : W.cell? ⟨b, o + k, none⟩ = some (.int .i64 y) ∧ St w b o N xs W) :
    w8.cell? ⟨b, o + k, none⟩ = some (.int .i64 y) ∧ St w b o N xs w8 := by
  obtain ⟨hc, hr, hb⟩ := s
  exact ⟨cell_later g hc, hr.below g, below_after hb hb.size g⟩

theorem St.tab {w W : World} {b o N : Nat} {xs : List Int} {p : Prop} (hT : TabAt w) (s : p ∧ St w b o N xs W) : TabAt W := hT.below s.2.bel

theorem fresh_ne {W : World} {b : Nat} {v : Value} (hb : b < W.heap.size) (hat : v.ownBlock = (Value.slice none 0 0).ownBlock ∨ v.ownBlock = some W.heap.size) : some b ≠ v.ownBlock := by
  rcases hat with h | h
  · rw [h]
    simp [Value.ownBlock]
  · rw [h]
    intro e
    injection e with e
    omega

set_option maxHeartbeats 4000000 in
theorem walk_law {A : Option Addr} {n ca : Nat} {za : List Int} (ix : Int) (w : World) (hi1 : -9223372036854775808 ≤ ix) (hi2 : ix ≤ 9223372036854775807) (ha : ReadI w A n za) (hT : TabAt w) :
    Calls Tryd.prog 4 #[.slice A n ca, .int .i64 ix] w fun e w' => e = .returned (.bool true) ∧ Below w.heap.size w w' := by
  go_enter Tryd.func4, Tryd.ntmps4
  go_wp2_with fail
  refine (made_any 500 _ ha).mono ?_
  rintro e w1 ⟨gs, hs, rfl, s1, b1, ls1, ls2⟩
  rw [show roomOf 500 = 500 from by decide] at s1
  go_wp2_with fail
  refine (awake_any _ (hT.below b1)).mono ?_
  rintro e w2 ⟨rfl, c2⟩
  have s2 := s1.below c2
  have b2 := below_after b1 b1.size c2
  have d1 := s1.lt
  have d2 := s1.wlt
  have t2 := hT.below b2
  clear s1
  have hlen : (listOf (memF 500 (za.take 60)) 500).length ≤ 60 := Nat.le_trans (len_memF _ _) (by rw [List.length_take]; omega)
  generalize memF 500 (za.take 60) = f at *
  go_wp2_with fail
  refine (least_any _ _ s2 t2).mono ?_
  rintro e w3 ⟨rfl, rfl⟩
  go_wp2_with fail
  go_loopw [6, 7] (fun v i wr => ∃ (xs : List Int) (p : Nat), Hid (xs ++ lst f (500 - p) p = listOf f 500) ∧ OwnI wr w2.heap.size v xs ∧ Below w2.heap.size w2 wr ∧ p ≤ 500 ∧ i = .int .i64 (scan f (500 - p) p)) (fun _ i _ => left 500 (intOf i))
  case atStart => exact ⟨[], 0, rfl, World.ownsRow_nil _ _ _ _, Below.refl _ _, Nat.zero_le _, rfl⟩
  case round =>
    obtain ⟨xs, p, hxs, hown, hbel, hp, rfl⟩ := hrel
    have hl := lst_scan f 500 (500 - p) p (by omega)
    have hxl : xs.length + (lst f (500 - p) p).length ≤ 60 := by
      have e := congrArg List.length hxs.out
      rw [List.length_append] at e
      omega
    obtain ⟨Ax, cx, rfl, hx1, hx2, rx⟩ := OwnI.read hown
    generalize hN : xs.length = N at *
    have HN := Lib.hid hN
    clear hN
    by_cases hneg : scan f (500 - p) p < 0
    · have hx := hl.1 hneg
      have hge : decide (0 ≤ scan f (500 - p) p) = false := by simp; omega
      rw [hx, List.append_nil] at hxs
      clear hl hx
      generalize scan f (500 - p) p = q at *
      have s4 := s2.below hbel
      have t4 := t2.below hbel
      have b4 := below_after b2 b2.size hbel
      go_wp2_with fail
      have h1 := list_any _ s4 t4
      rw [← hxs.out] at h1
      refine h1.mono ?_
      rintro e w5 ⟨v, rfl, v5, c5⟩
      clear h1
      obtain ⟨Av, cv, rfl, hv1, hv2, rv⟩ := OwnI.read v5
      have b5 := below_after b4 b4.size c5
      have e5 : Below w2.heap.size w2 w5 := below_after hbel hbel.size c5
      have r5 := rx.below c5
      go_wp2_with fail
      have h1 := plain_any (ca := cx) (cb := cv) _ r5 rv
      simp only [decide_true] at h1
      refine h1.mono ?_
      rintro e w6 ⟨rfl, dr6⟩
      clear h1 rv v5 hv1 hv2
      have c6 := dr6.below w5.heap.size
      have b6 := below_after b5 b5.size c6
      have e6 : Below w2.heap.size w2 w6 := below_after e5 e5.size c6
      have r6 := r5.below c6
      have hsort : xs.Pairwise (· < ·) := by rw [hxs.out]; exact sorted_listOf f 500
      have h1 := rises_yes (c := cx) _ r6 hsort
      go_wp2_with fail
      refine h1.mono ?_
      rintro e w7 ⟨rfl, dr7⟩
      clear h1 hsort
      have c7 := dr7.below w6.heap.size
      have b7 := below_after b6 b6.size c7
      have e7 : Below w2.heap.size w2 w7 := below_after e6 e6.size c7
      have r7 := r6.below c7
      have s7 := s2.below e7
      have t7 := t2.below e7
      clear r5 r6 s4 t4
      by_cases hN0 : N = 0
      · subst hN0
        have hc0 : cnt f 500 = 0 := by
          rw [← length_listOf, ← hxs.out]
          exact HN.out
        have h1 := len_any _ s7
        rw [hc0] at h1
        clear hc0
        go_wp2_with fail
        refine h1.mono ?_
        rintro e w8 ⟨rfl, rfl⟩
        go_wp2
        go_ret
        exact ⟨rfl, b7⟩
      · have hN0' : ((N : Int) == 0) = false := by simp; omega
        obtain ⟨k, hkN, hkE⟩ := uint_mod ix N (by omega) (by omega)
        obtain ⟨b, o, rfl, hc⟩ := r7.2.2 (by omega)
        have hck := hc k hkN
        have hxk : gi xs k ∈ listOf f 500 := by
          rw [← hxs.out]
          have hk2 : k < xs.length := by have := HN.out; omega
          simp [gi, List.getD_eq_getElem?_getD, hk2]
        obtain ⟨y0, y1, y2⟩ := (mem_listOf f 500 (gi xs k)).1 hxk
        obtain ⟨M, hM⟩ : ∃ M, M = xs.take k ++ xs.drop (k + 1) := ⟨_, rfl⟩
        have HL2 : Hid (listOf (delF (delF f (gi xs k)) (gi xs k)) 500 = M) := by
          unfold Hid
          rw [walk_del f xs k (by have := HN.out; omega) hxs.out, hM]
        have HM := Lib.hid hM
        clear hM
        generalize hy : gi xs k = y at *
        have hy1 : hasI f y = true := by simp [hasI, y0, y2]
        have hy2 : hasI (delF f y) y = false := by simp [hasI, delF, y0]; omega
        have hy3 : hasI (delF (delF f y) y) y = false := by simp [hasI, delF, y0]; omega
        have HNE : Hid (some b ≠ some hs) := by
          have h1 := row_base hown b rfl
          have h2 := c2.size
          show some b ≠ some hs
          intro e
          injection e with e
          omega
        have hcut1 := cut_to (some ⟨b, o, none⟩) N cx k (k : Int) rfl (by omega)
        obtain ⟨ad, hcut2, had⟩ := cut_from b o N cx (k + 1) ((k : Int) + 1) (by omega) (by omega) hx1
        have HAD := Lib.hid had
        clear had
        have sd : SetAt w7.drew gs hs 500 f := s7.of_heap rfl
        have td : TabAt w7.drew := t7
        have hkc : k < cx := by omega
        have k1 : (0 : Int) ≤ (k : Int) ∧ (k : Int) < (N : Int) := by omega
        clear hc hxk y0 y1 y2 hy
        go_wp2_with fail
        rw [hkE]
        clear hkE
        have ew : IntKind.i64.wrap ((k : Int) + 1) = (k : Int) + 1 := by rw [IntKind.wrap_i64]; omega
        have hst : w7.drew.cell? ⟨b, o + k, none⟩ = some (.int .i64 y) ∧ St w b o N xs w7.drew := ⟨hck, r7, b7.drew⟩
        have HLS : Hid (w.heap.size ≤ hs) := ls2
        clear hck
        go_region_held3 (fun w' => w'.cell? ⟨b, o + k, none⟩ = some (.int .i64 y) ∧ St w b o N xs w')
          (first | exact hst | exact St.app g12 (by assumption) hrow hrow2 | exact St.app g11 (by assumption) (by simp [Value.ownBlock]) (by simp [Value.ownBlock]) | exact St.word (by assumption) (by assumption) HNE.out HLS.out | exact St.later (by assumption) (by assumption) | exact St.later (dr13.below _) (by assumption) | assumption)
          (first
            | (go_at_call 17; refine (drop_any y _ (by assumption)).mono ?_; rintro e w8 ⟨rfl, s8, g8, z8⟩; clear z8)
            | (go_at_call 18; refine (has_any y _ (by assumption)).mono ?_; rintro e w9 ⟨rfl, rfl⟩)
            | (go_at_call 15; refine (list_any _ (by assumption) (St.tab hT (by assumption))).mono ?_; rintro e w10 ⟨v, rfl, v10, c10⟩; rw [HL2.out] at v10; obtain ⟨A2, cv2, rfl, -, -, rv2⟩ := OwnI.read v10; have hA2 := row_lt v10)
            | (refine step_app_slice w.heap.size (by rfl) _ _ (by rfl) (.slice none 0 0) [] (xs.take k) (by rfl) (World.ownsRow_nil _ _ _ _) (St.bel (And.right (by assumption))).size ⟨b, o, none⟩ k cx (by rfl) (ReadI.take (St.read (And.right (by assumption))) k (by omega)) (by simp; omega) ?_; intro v1 w11 own1 g11 hat1; have hrow : some b ≠ v1.ownBlock := fresh_ne (World.block_lt_of_cell? _ _ (And.left (by assumption))) hat1; have hrow2 := row_base own1; have rv3 := ReadI.grown rv2 g11 (by intro b' o' e'; simp [Value.ownBlock]); have hrow3 : ∀ b' o', A2 = some ⟨b', o', none⟩ → some b' ≠ v1.ownBlock := fun b' o' e' => fresh_ne (hA2 b' (by rw [e']; rfl)) hat1)
            | (refine step_app_slice w.heap.size (by rfl) _ _ (by rfl) v1 ([] ++ xs.take k) (xs.drop (k + 1)) (by rfl) own1 (St.bel (And.right (by assumption))).size ad (N - (k + 1)) (cx - (k + 1)) (by rfl) (ReadI.drop (St.read (And.right (by assumption))) (k + 1) (by omega) HAD.out) (by simp; omega) ?_; intro v2 w12 own2 g12 hat2; have rv4 := ReadI.grown rv3 g12 hrow3; rw [List.nil_append, ← HM.out] at own2; obtain ⟨A3, cv3, rfl, -, -, rv5⟩ := OwnI.read own2)
            | (go_at_call 14; refine (plain_true _ rv4 rv5).mono ?_; rintro e w13 ⟨rfl, dr13⟩))
        have hfin : St w b o N xs w13 := And.right (by assumption)
        go_wp2
        go_ret
        exact ⟨rfl, hfin.bel⟩
    · obtain ⟨h1, h2, h3⟩ := hl.2 (by omega)
      have HX : Hid ((xs ++ [scan f (500 - p) p]) ++ lst f (500 - ((scan f (500 - p) p).toNat + 1)) ((scan f (500 - p) p).toNat + 1) = listOf f 500) := by
        rw [List.append_assoc, List.singleton_append, ← h3]
        exact hxs
      have hge : decide (0 ≤ scan f (500 - p) p) = true := by simp; omega
      have hlt : decide ((N : Int) < 100) = true := by simp; omega
      clear hl h3 hxs
      generalize scan f (500 - p) p = q at *
      go_wp2_with (first | (at_builtin; refine app_int (W := wr) (w0 := w2) w2.heap.size rfl _ _ rfl (Value.slice Ax N cx) xs q rfl rfl hown hbel hbel.size (by have := HN.out; omega) ?_; intro v1 w4 hown1 hbel1 hg1 _; have s4 := s2.below hbel1; have t4 := t2.below hbel1) | (go_at_call 12; refine (least_any (q + 1) _ (by assumption) (by assumption)).mono ?_; rintro e w' ⟨rfl, rfl⟩))
      go_roundw
      case rel => exact ⟨xs ++ [q], q.toNat + 1, HX, hown1, hbel1, by omega, by unfold least; rw [show (q + 1).toNat = q.toNat + 1 from by omega]⟩
      case measure =>
        have hs := lst_scan f 500 (500 - (q.toNat + 1)) (q.toNat + 1) (by omega)
        have e : least f 500 (q + 1) = scan f (500 - (q.toNat + 1)) (q.toNat + 1) := by unfold least; rw [show (q + 1).toNat = q.toNat + 1 from by omega]
        show left 500 (least f 500 (q + 1)) < left 500 q
        rw [e]
        generalize scan f (500 - (q.toNat + 1)) (q.toNat + 1) = r at *
        have hq : left 500 q = 500 + 1 - q.toNat := if_neg (by omega)
        rw [hq]
        unfold left
        split
        · omega
        · have := (hs.2 (by omega)).1
          omega

theorem bitswalk_walk {A : Option Addr} {n ca : Nat} {za : List Int} (ix : Int) (w : World) (ha : ReadI w A n za) (hi : -9223372036854775808 ≤ ix ∧ ix ≤ 9223372036854775807) (hT : TabAt w) :
    Calls Tryd.prog 4 #[.slice A n ca, .int .i64 ix] w fun e w' => e = .returned (.bool true) ∧ Below w.heap.size w w' := walk_law ix w hi.1 hi.2 ha hT

end Go.Proofs.YtnldfjoadmehcaaDoor
