/- The walk of the law on what two sets have in common. -/
import Derived.Test.YtnldfjoadmehcaaDoorBits8
set_option linter.unusedVariables false
set_option linter.unusedSimpArgs false
namespace Go.Proofs.YtnldfjoadmehcaaDoor
open Go.RowKit Bs

/-- A set lives on while another set's words are written. -/
theorem SetAt.other {w w' : World} {g h room k : Nat} {f : Nat → Bool} (s : SetAt w g h room f) (hg : w.grownBy w' (some k)) (h1 : g ≠ k) (h2 : h ≠ k) : SetAt w' g h room f :=
  s.keep hg.size (hg.block g s.lt (by simpa using h1)) (hg.block h s.wlt (by simpa using h2))

theorem dig_true (f : Nat → Bool) (i : Nat) (h : f i = true) : dig f i = 1 := by simp [dig, h]
theorem cnt_congr {f g : Nat → Bool} : ∀ n, (∀ i, i < n → f i = g i) → cnt f n = cnt g n
  | 0, _ => rfl
  | n + 1, h => by
    rw [cnt, cnt, cnt_congr n fun i hi => h i (by omega)]
    congr 1
    unfold dig
    rw [h n (by omega)]

theorem common_pure (fs ft : Nat → Bool) (hs : ∀ k, 200 ≤ k → fs k = false) (ht : ∀ k, 100 ≤ k → ft k = false) (n : Nat) (hn : n = (listOf fs 200).countP (fun z => decide (z ∈ listOf ft 100))) :
    (listOf ft 100).countP (hasI fs) = n ∧ (listOf fs 200).countP (hasI ft) = n ∧ (run_put 200 fs (listOf ft 100)).1 = (listOf ft 100).length - n ∧ n ≤ (listOf ft 100).length ∧
    (run_drop 200 (run_put 200 fs (listOf ft 100)).2 (listOf fs 200)).1 = (listOf fs 200).length ∧ (listOf fs 200).countP (hasI fs) = (listOf fs 200).length := by
  have h200 : ∀ k, 200 ≤ k → (fun i => fs i && ft i) k = false := fun k hk => by simp [hs k hk]
  have e1 : n = cnt (fun i => fs i && ft i) 200 := by
    rw [hn, countP_listOf]
    apply cnt_congr
    intro i hi
    have : ((i : Int) ∈ listOf ft 100) ↔ ft i = true := by
      rw [mem_listOf]
      constructor
      · rintro ⟨_, _, h⟩
        simpa using h
      · intro h
        refine ⟨by omega, ?_, by simpa using h⟩
        have : i < 100 := by
          apply Nat.lt_of_not_le
          intro hle
          rw [ht i hle] at h
          cases h
        omega
    simp [this]
  have e2 : n = cnt (fun i => fs i && ft i) 100 := by
    rw [e1]
    exact cnt_room (room := 100) (fun k hk => by simp [ht k hk]) 200 (by omega)
  have hd := nodup_listOf ft 100
  have hd2 := nodup_listOf fs 200
  have c1 : (listOf ft 100).countP (hasI fs) = n := by
    rw [countP_listOf, e2]
    apply cnt_congr
    intro i hi
    simp [hasI, Bool.and_comm]
  have c3 : (listOf ft 100).countP (putB 200 fs) + n = (listOf ft 100).length := by
    have h1 : (listOf ft 100).countP (putB 200 fs) = (listOf ft 100).countP (fun z => !hasI fs z) := by
      apply List.countP_congr
      intro z hz
      obtain ⟨z0, z1, _⟩ := (mem_listOf ft 100 z).1 hz
      have : 0 ≤ z ∧ z < 200 := by omega
      simp [putB, hasI, this]
    have h2 := List.length_eq_countP_add_countP (hasI fs) (l := listOf ft 100)
    rw [h1, h2, ← c1]
    simp
    omega
  refine ⟨?_, ?_, ?_, by omega, ?_, ?_⟩
  · exact c1
  · rw [e1, countP_listOf]
    apply cnt_congr
    intro i hi
    simp [hasI]
  · rw [run_put_is _ _ _ hd]
    simp only []
    omega
  · rw [run_put_is _ _ _ hd, run_drop_is _ _ _ hd2]
    simp only []
    rw [List.countP_eq_length]
    intro z hz
    obtain ⟨z0, z1, z2⟩ := (mem_listOf fs 200 z).1 hz
    simp [hasI, z0, z2]
  · rw [List.countP_eq_length]
    intro z hz
    obtain ⟨z0, z1, z2⟩ := (mem_listOf fs 200 z).1 hz
    simp [hasI, z0, z2]

theorem common_law {A B : Option Addr} {n m ca cb : Nat} {za zb : List Int} (w : World) (ha : ReadI w A n za) (hb : ReadI w B m zb) (hT : TabAt w) :
    Calls Tryd.prog 6 #[.slice A n ca, .slice B m cb] w fun e w' => e = .returned (.bool true) ∧ Below w.heap.size w w' := by
  go_enter Tryd.func6, Tryd.ntmps6
  go_wp2_with fail
  refine (made_any 200 _ ha).mono ?_
  rintro e w1 ⟨gs, hs, rfl, s1, b1, ls1, ls2⟩
  rw [show roomOf 200 = 200 from by decide] at s1
  have hb1 := hb.below b1
  go_wp2_with fail
  refine (made_any 100 _ hb1).mono ?_
  rintro e w2 ⟨gt, ht, rfl, t2, c2, lt1, lt2⟩
  rw [show roomOf 100 = 100 from by decide] at t2
  have s2 := s1.below c2
  have b2 := below_after b1 b1.size c2
  have d1 := s1.lt
  have d2 := s1.wlt
  clear s1 hb1
  go_wp2_with fail
  refine (awake_any _ (hT.below b2)).mono ?_
  rintro e w3 ⟨rfl, c3⟩
  have s3 := s2.below c3
  have t3 := t2.below c3
  have b3 := below_after b2 b2.size c3
  have d3 := t2.lt
  have d4 := t2.wlt
  clear s2 t2
  generalize memF 200 (za.take 60) = fs at *
  generalize memF 100 (zb.take 60) = ft at *
  go_wp2_with fail
  refine (list_any _ s3 (hT.below b3)).mono ?_
  rintro e w4 ⟨x, rfl, x4, c4⟩
  have s4 := s3.below c4
  have t4 := t3.below c4
  have b4 := below_after b3 b3.size c4
  go_wp2_with fail
  refine (list_any _ t4 (hT.below b4)).mono ?_
  rintro e w5 ⟨y, rfl, y5, c5⟩
  have s5 := s4.below c5
  have t5 := t4.below c5
  have b5 := below_after b4 b4.size c5
  have x5 := row_below x4 c5
  clear s3 t3 s4 t4 x4
  obtain ⟨Ax, cx, rfl, hx1, hx2, rx⟩ := OwnI.read x5
  obtain ⟨Ay, cy, rfl, hy1, hy2, ry⟩ := OwnI.read y5
  obtain ⟨N, hN⟩ : ∃ N, N = (listOf fs 200).countP (fun z => decide (z ∈ listOf ft 100)) := ⟨_, rfl⟩
  have HP := Lib.hid (common_pure fs ft s5.out t5.out N hN)
  have HN := Lib.hid hN
  have lx : (listOf fs 200).length ≤ 200 := lst_length fs 200 0
  have ly : (listOf ft 100).length ≤ 100 := lst_length ft 100 0
  clear hN
  generalize hlx : listOf fs 200 = xs at *
  generalize hly : listOf ft 100 = ys at *
  generalize hnx : xs.length = nx at *
  generalize hny : ys.length = ny at *
  have HLX := Lib.hid hlx
  have HLY := Lib.hid hly
  have HNX := Lib.hid hnx
  have HNY := Lib.hid hny
  clear hlx hly hnx hny
  go_wp2_with fail
  go_loop [9, 10] (fun c i => ∃ k : Nat, k ≤ nx ∧ i = .int .i64 k ∧ c = .int .i64 ((xs.take k).countP (fun z => decide (z ∈ ys)) : Nat)) (fun _ i => nx - (intOf i).toNat)
  case atStart => exact ⟨0, Nat.zero_le _, rfl, rfl⟩
  case round =>
    obtain ⟨k, hk, rfl, rfl⟩ := hrel
    have hle : (xs.take k).countP (fun z => decide (z ∈ ys)) ≤ k := Nat.le_trans List.countP_le_length (List.length_take_le _ _)
    by_cases hlt : k < nx
    · obtain ⟨b, o, rfl, hc⟩ := rx.2.2 (by omega)
      have hck := hc k hlt
      have htk := take_succ_eq (xs := xs) (k := k) (by have := HNX.out; omega)
      have hstep : (xs.take (k + 1)).countP (fun z => decide (z ∈ ys)) = (xs.take k).countP (fun z => decide (z ∈ ys)) + if decide (gi xs k ∈ ys) then 1 else 0 := by
        rw [htk, List.countP_append]
        simp
      have HS := Lib.hid hstep
      have hin := in_any (c := cy) (gi xs k) w5 ry
      clear hc htk hstep
      cases hb : decide (gi xs k ∈ ys)
      all_goals
        rw [hb] at hin
        have HB := Lib.hid hb
        clear hb
        go_wp2_with (go_at_call 20; refine hin.mono ?_; rintro e w' ⟨rfl, rfl⟩)
        go_round
        case rel =>
          have h1 := HS.out
          rw [HB.out] at h1
          exact ⟨k + 1, by omega, by go_num, by rw [h1]; first | rfl | go_num⟩
        case measure => simp [intOf]; omega
    · have hfin : Hid ((xs.take k).countP (fun z => decide (z ∈ ys)) = N) := by
        have e : xs.take k = xs := List.take_of_length_le (by have := HNX.out; omega)
        show _ = N
        rw [e, HN.out]
      rw [hfin.out]
      clear hle
      go_wp2_with fail
      refine (fork_any _ s5).mono ?_
      rintro e w6 ⟨gu, hu, rfl, u6, c6, lu1, lu2⟩
      have s6 := s5.below c6
      have t6 := t5.below c6
      have b6 := below_after b5 b5.size c6
      have T6 := hT.below b6
      go_wp2_with fail
      have h1 := common_any _ s6 t6 T6
      rw [HLY.out, HP.out.1] at h1
      refine h1.mono ?_
      rintro e w7 ⟨rfl, c7⟩
      clear h1
      have s7 := s6.below c7
      have t7 := t6.below c7
      have u7 := u6.below c7
      have b7 := below_after b6 b6.size c7
      have T7 := hT.below b7
      clear s6 t6 u6 T6
      go_wp2_with fail
      have h1 := common_any _ t7 s7 T7
      rw [HLX.out, HP.out.2.1] at h1
      refine h1.mono ?_
      rintro e w8 ⟨rfl, c8⟩
      clear h1
      have s8 := s7.below c8
      have t8 := t7.below c8
      have u8 := u7.below c8
      have b8 := below_after b7 b7.size c8
      have T8 := hT.below b8
      clear s7 t7 u7 T7
      go_wp2_with fail
      have h1 := Join_any _ u8 t8 T8
      rw [HLY.out, HP.out.2.2.1] at h1
      refine h1.mono ?_
      rintro e w9 ⟨rfl, u9, g9⟩
      clear h1
      have e8 : Below w5.heap.size w5 w8 := below_after (below_after c6 c6.size c7) (by have := c6.size; have := c7.size; omega) c8
      have e9 := below_word e8 g9 lu2 e8.size
      have s9 := s5.below e9
      have b9 : Below w.heap.size w w9 := below_after b5 b5.size e9
      have T9 := hT.below b9
      have hN1 : N ≤ ny := HP.out.2.2.2.1
      have hj : (((ny - N : Nat) : Int) == (ny : Int) - (N : Int)) = true := by simp; omega
      clear s8 t8 u8 T8
      go_wp2_with fail
      have h1 := Less_any _ u9 s9 T9
      rw [HLX.out, HP.out.2.2.2.2.1] at h1
      refine h1.mono ?_
      rintro e w10 ⟨rfl, u10, g10⟩
      clear h1 hj
      have e10 := below_word e9 g10 lu2 e9.size
      have s10 := s5.below e10
      have t10 := t5.below e10
      have x10 := rx.below e10
      have y10 := ry.below e10
      have b10 : Below w.heap.size w w10 := below_after b5 b5.size e10
      have T10 := hT.below b10
      clear u10 s9 T9 u9
      go_wp2_with fail
      have h1 := list_any _ s10 T10
      rw [HLX.out] at h1
      refine h1.mono ?_
      rintro e w11 ⟨v, rfl, v11, c11⟩
      clear h1
      obtain ⟨Av, cv, rfl, hv1, hv2, rv⟩ := OwnI.read v11
      have b11 := below_after b10 b10.size c11
      have y11 := y10.below c11
      have s11 := s10.below c11
      have t11 := t10.below c11
      go_wp2_with fail
      have h1 := plain_any (ca := cv) (cb := cx) _ rv (x10.below c11)
      simp only [decide_true] at h1
      refine h1.mono ?_
      rintro e w12 ⟨rfl, d12⟩
      clear h1
      have c12 := d12.below w11.heap.size
      have b12 := below_after b11 b11.size c12
      have s12 := s11.below c12
      have t12 := t11.below c12
      have y12 := y11.below c12
      clear s10 t10 x10 y10 s11 t11 y11 T10 v11 rv
      go_wp2_with fail
      have h1 := list_any _ t12 (hT.below b12)
      rw [HLY.out] at h1
      refine h1.mono ?_
      rintro e w13 ⟨v', rfl, v13, c13⟩
      clear h1
      obtain ⟨Av', cv', rfl, hv1', hv2', rv'⟩ := OwnI.read v13
      have b13 := below_after b12 b12.size c13
      have s13 := s12.below c13
      go_wp2_with fail
      have h1 := plain_any (ca := cv') (cb := cy) _ rv' (y12.below c13)
      simp only [decide_true] at h1
      refine h1.mono ?_
      rintro e w14 ⟨rfl, d14⟩
      clear h1
      have c14 := d14.below w13.heap.size
      have b14 := below_after b13 b13.size c14
      have s14 := s13.below c14
      clear v13 rv' s12 t12 y12 s13
      go_wp2_with fail
      have h1 := common_any _ s14 s14 (hT.below b14)
      rw [HLX.out, HP.out.2.2.2.2.2] at h1
      refine h1.mono ?_
      rintro e w15 ⟨rfl, c15⟩
      have b15 := below_after b14 b14.size c15
      clear h1
      go_wp2
      go_ret
      exact ⟨rfl, b15⟩

theorem bitscommon_walk {A B : Option Addr} {n m ca cb : Nat} {za zb : List Int} (w : World) (ha : ReadI w A n za) (hb : ReadI w B m zb) (hT : TabAt w) :
    Calls Tryd.prog 6 #[.slice A n ca, .slice B m cb] w fun e w' => e = .returned (.bool true) ∧ Below w.heap.size w w' := common_law w ha hb hT

end Go.Proofs.YtnldfjoadmehcaaDoor
