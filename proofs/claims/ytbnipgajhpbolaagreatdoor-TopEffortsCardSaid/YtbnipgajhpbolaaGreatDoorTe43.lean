/- barrier.Lack; The walks of the small functions of mates and garlandref08: Edges, Size, Free, such, paired, free; The walk of garlandref08.Right -/
import Derived.Test.YtbnipgajhpbolaaGreatDoorTe41
import Derived.Test.YtbnipgajhpbolaaGreatDoorTe42
import Derived.Test.YtbnipgajhpbolaaGreatDoorTe12
import Derived.Test.YtbnipgajhpbolaaGreatDoorTe09
set_option linter.unusedVariables false
set_option linter.unusedSimpArgs false
namespace Go.Proofs.YtbnipgajhpbolaaGreatDoor

section
open Go.RowKit
section
variable {N : Nat} {es : List Ed}
/-- What a set lacks. -/
def lackP (N : Nat) (es : List Ed) (ol : List Int) : Int := (oddN (Pc.all (fun v => nearV es v) N (inL ol) N).2 : Int) - ol.length
/-- A set of vertices. -/
def SetN (N : Nat) (ol : List Int) : Prop := ol.Nodup ∧ ∀ x ∈ ol, ∃ z : Nat, z < N ∧ x = z
theorem SetN.few {ol : List Int} (h : SetN N ol) : ol.length ≤ N := by
  have h1 := pigeon (R := fun x y => x = y) (L' := (List.range N).map fun z : Nat => (z : Int)) h.1 (fun x hx => by
    obtain ⟨z, hz, rfl⟩ := h.2 x hx
    exact ⟨_, List.mem_map.2 ⟨z, List.mem_range.2 hz, rfl⟩, rfl⟩) (fun x hx x' hx' y h1 h2 => h1.trans h2.symm)
  simpa using h1
theorem SetN.fresh {ol : List Int} (h : SetN N ol) {k y : Nat} (hk : k < ol.length) (hy : gi ol k = (y : Int)) : inL (ol.take k) y = false := by
  unfold inL
  refine decide_eq_false fun hin => ?_
  obtain ⟨j, hj, e⟩ := List.mem_iff_getElem.1 hin
  rw [List.length_take] at hj
  rw [List.getElem_take, ← hy, gi_at hk] at e
  have := (List.getElem_inj h.1).1 e
  omega
section
variable {w W W' : World} {M : Int} {A : Option Addr} {n c : Nat}
theorem GB.start : GB w M A n c (w.alloc (gcells M A n c)) := Below.refl _ _
theorem GB.sz (h : GB w M A n c W) : w.heap.size + 1 ≤ W.heap.size := by have := Below.size h; simp at this; exact this
theorem GB.lat (h : GB w M A n c W) (hb : Below W.heap.size W W') : GB w M A n c W' := below_after h h.sz hb
theorem GB.of (h : GB w M A n c W) : Below w.heap.size w W := by
  have e : (w.alloc (gcells M A n c)).heap.size = w.heap.size + 1 := by simp
  unfold GB at h
  rw [← e] at h
  exact bel_trans (bel_alloc w (gcells M A n c)) h
theorem GB.two (h : GB w M A n c W) : W.cell? ⟨w.heap.size, 0, none⟩ = some (.int .i64 M) ∧ W.cell? ⟨w.heap.size, 1, none⟩ = some (.slice A n c) := by
  have e : (w.alloc (gcells M A n c)).heap.size = w.heap.size + 1 := by simp
  unfold GB at h
  rw [← e] at h
  exact later2 h (boxg w M A n c)
end

set_option maxHeartbeats 16000000 in
set_option maxRecDepth 100000 in
theorem lack_any {A : Option Addr} {n c b1 : Nat} {ov : Value} {ol : List Int} (w : World) (h : ReadE w A n es) (hr : rightB N es = true) (ho : OwnI w b1 ov ol) (hol : SetN N ol) :
    Calls Tryz.prog 136 #[.agg #[.int .i64 N, .slice A n c], ov] w fun e w' => e = .returned (.tuple #[.int .i64 (lackP N es ol), .int .i64 0]) ∧ Below w.heap.size w w' := by
  obtain ⟨r1, r2, r3, r4⟩ := rightB_iff.1 hr
  have hN6 : N ≤ 4096 := by omega
  have HN6 := Lib.hid hN6
  have HFEW := Lib.hid hol.few
  have HOL := Lib.hid hol
  have HRI := Lib.hid r4
  have HEL := Lib.hid r3
  have HR := Lib.hid hr
  have HE := Lib.hid h
  obtain ⟨B, cB, nB, rfl⟩ := OwnI.shape ho
  have hlB : cB = ol.length := ho.len rfl
  subst hlB
  have HO := Lib.hid ho
  have hgr := gright_any (c := c) N _ (HE.out.below (bel_alloc w (gcells N A n c)))
  have HG1 : Hid (GB w N A n c (w.alloc (gcells N A n c))) := Below.refl _ _
  obtain ⟨x0, x1⟩ := HG1.out.two
  clear h hr r1 r2 r3 r4 hN6 ho hol
  go_enter Tryz.func136, Tryz.ntmps136
  go_wp2_with fail
  refine hgr.mono ?_
  rintro e w2 ⟨rfl, hb2⟩
  rw [HR.out]
  have HG2 := Lib.hid (HG1.out.lat hb2)
  clear hgr x0 x1 hb2 HG1
  go_wp2_with fail
  go_loopw [16] (fun i wr => ∃ k : Nat, k ≤ ol.length ∧ i = .int .i64 k ∧ wr = w2) (fun i _ => ol.length - (intOf i).toNat)
  case atStart => exact ⟨0, Nat.zero_le _, rfl, rfl⟩
  case round =>
    obtain ⟨k, hk, rfl, hw⟩ := hrel
    have hw' := hw.symm
    subst hw'
    clear hw
    by_cases hlt : k < ol.length
    · have HLT := Lib.hid hlt
      obtain ⟨y, hy, hye⟩ := HOL.out.2 (gi ol k) (by rw [gi_at hlt]; exact List.getElem_mem _)
      obtain ⟨g, c', hv, hgb, hgl, hgc⟩ := own_slice HO.out (by omega)
      simp only [Value.slice.injEq] at hv
      obtain ⟨rfl, -, -⟩ := hv
      have hck := (HO.out.later HG2.out.of).cellAt hlt
      rw [hye] at hck
      obtain ⟨x0, x1⟩ := HG2.out.two
      have t1 : decide ((y : Int) < 0) = false := decide_eq_false (by omega)
      have t2 : decide ((N : Int) ≤ (y : Int)) = false := decide_eq_false (by omega)
      have t3 : decide (N ≤ y) = false := decide_eq_false (by omega)
      have ew := wrap_one (show k ≤ 1000000 by have := HFEW.out; have := HN6.out; omega)
      have hki : (0 : Int) ≤ (k : Int) ∧ (k : Int) < (ol.length : Int) := ⟨Int.natCast_nonneg k, Int.ofNat_lt.2 hlt⟩
      clear hlt hye hk hgl hgb hy
      go_wp2_with fail
      go_roundw
      case rel => exact ⟨k + 1, HLT.out, by go_num, trivial⟩
      case measure => have := HLT.out; simp only [intOf, Int.toNat_natCast]; omega
    · have hke : k = ol.length := by omega
      subst hke
      have hmk := run_make_row' 68 4 (.bool false) 1 Tryz.underlying68 (by kernel_rfl) rfl .i64 .i64 N (by have := HN6.out; omega) (by have := HN6.out; omega) w2
      obtain ⟨x0, x1⟩ := HG2.out.two
      have HB3 := Lib.hid (bel_alloc w2 (.cells (madeCells #[.bool false] N) 4))
      have HR3 : Hid (RowF (w2.alloc (.cells (madeCells #[.bool false] N) 4)) w2.heap.size 4 N fun j => .bool (inL (ol.take 0) j)) := (RowF.made w2 N 4 (.bool false)).congr fun j hj => by simp [inL]
      clear hlt hk
      go_wp2_with fail
      clear hmk x0 x1
      go_loopw [34] (fun i wr => ∃ k : Nat, k ≤ ol.length ∧ i = .int .i64 k ∧ Hid (RowF wr w2.heap.size 4 N (fun j => .bool (inL (ol.take k) j)) ∧ Below w2.heap.size w2 wr)) (fun i _ => ol.length - (intOf i).toNat)
      case atStart => exact ⟨0, Nat.zero_le _, rfl, HR3.out, HB3.out⟩
      case round =>
        clear HR3 HB3
        obtain ⟨k, hk, rfl, hin⟩ := hrel
        by_cases hlt : k < ol.length
        · have HLT := Lib.hid hlt
          obtain ⟨y, hy, hye⟩ := HOL.out.2 (gi ol k) (by rw [gi_at hlt]; exact List.getElem_mem _)
          obtain ⟨g, c', hv, hgb, hgl, hgc⟩ := own_slice HO.out (by omega)
          simp only [Value.slice.injEq] at hv
          obtain ⟨rfl, -, -⟩ := hv
          have hck := ((HO.out.later HG2.out.of).later hin.out.2).cellAt hlt
          rw [hye] at hck
          have cD := hin.out.1.cell hy
          have fD := hin.out.1.froz y
          rw [HOL.out.fresh hlt hye] at cD
          have hyi : (0 : Int) ≤ (y : Int) ∧ (y : Int) < (N : Int) := ⟨Int.natCast_nonneg y, Int.ofNat_lt.2 hy⟩
          have ew := wrap_one (show k ≤ 1000000 by have := HFEW.out; have := HN6.out; omega)
          have hki : (0 : Int) ≤ (k : Int) ∧ (k : Int) < (ol.length : Int) := ⟨Int.natCast_nonneg k, Int.ofNat_lt.2 hlt⟩
          have HI : Hid (RowF (wr.setCell ⟨w2.heap.size, y, none⟩ (.bool true)) w2.heap.size 4 N (fun j => .bool (inL (ol.take (k + 1)) j)) ∧ Below w2.heap.size w2 (wr.setCell ⟨w2.heap.size, y, none⟩ (.bool true))) := by
            refine ⟨(hin.out.1.set y (.bool true)).congr fun j hj => ?_, Below.setCell (p := ⟨w2.heap.size, y, none⟩) hin.out.2 (Nat.le_refl _) _⟩
            rw [inL_take HLT.out hye]
            show _ = Value.bool (upd (inL (ol.take k)) y true j)
            unfold upd
            by_cases e : j = y
            · rw [if_pos e, if_pos e]
            · rw [if_neg e, if_neg e]
          clear hlt hye hin hk hgl hgb
          go_wp2_with fail
          go_roundw
          case rel => exact ⟨k + 1, HLT.out, by go_num, HI.out⟩
          case measure => have := HLT.out; simp only [intOf, Int.toNat_natCast]; omega
        · have HG4 := Lib.hid (HG2.out.lat hin.out.2)
          have hli := lists_any (c := c) N wr (HE.out.below HG4.out.of) HN6.out (by have := HEL.out; have := HE.out.1; omega) (fun k hk => by
            have := HRI.out.1 _ (show ge es k ∈ es by rw [ge_get (by have := HE.out.1; omega)]; exact List.getElem_mem _)
            unfold edgeOk at this
            simp at this
            omega)
          have HLI := Lib.hid hli
          obtain ⟨x0, x1⟩ := HG4.out.two
          have hle : ol.length ≤ k := by omega
          clear hin hk hlt hli
          go_wp2_with fail
          refine HLI.out.mono ?_
          rintro e w5 ⟨vs, rfl, hrows, hb5⟩
          have HG5 := Lib.hid (HG4.out.lat hb5)
          have hla := lacks_any w5 HN6.out (fun u hu => ⟨by
            have h1 := degs_le (es := es) (P := [u]) (by simp)
            have h2 : degs es [u] = (nearV es u).length := by simp [degs]
            have := HEL.out
            omega, fun x hx => by
            obtain ⟨q1, q2, -⟩ := near_in HRI.out hx
            exact ⟨x.toNat, by omega, by omega⟩⟩) (hrows.congr (L' := fun v => nearV es v) fun i hi => rfl) (HO.out.later HG5.out.of) ⟨by have := HFEW.out; have := HN6.out; omega, HOL.out.2⟩
          have HLA := Lib.hid hla
          clear hb5 hrows hla HLI x0 x1
          go_wp2_with fail
          refine HLA.out.mono ?_
          rintro e w6 ⟨rfl, hb6⟩
          have HG6 := Lib.hid (HG5.out.lat hb6)
          clear hb6 HLA
          go_wp2_with fail
          go_ret2
          exact ⟨rfl, HG6.out.of⟩
end
end

section
open Go.RowKit
theorem ret_int {k : IntKind} {a b : Int} (h : a = b) : Ending.returned (.int k a) = .returned (.int k b) := by rw [h]
theorem ownE_empty (w : World) (base : Nat) : OwnE w base (.slice none 0 0) [] := OwnE.nil w base

set_option maxHeartbeats 4000000 in
set_option maxRecDepth 100000 in
theorem redges_any {A : Option Addr} {n c : Nat} {ms : List Int} (w : World) (h : ReadI w A n ms) (hn : n ≤ 1000000) :
    Calls Tryz.prog 37 #[.slice A n c] w fun e w' => ∃ v, e = .returned v ∧ OwnE w' w.heap.size v (edgesM ms) ∧ Below w.heap.size w w' := by
  have HE := Lib.hid h
  have HM := Lib.hid h.1
  have HR0 : Hid (RW w w) := RW.refl w
  have HO0 : Hid (OwnE w w.heap.size (.slice none 0 0) (edgesTo ms 0)) := ownE_empty _ _
  clear h
  go_enter Tryz.func37, Tryz.ntmps37
  go_wp2_with fail
  go_loopw [3, 4, 5] (fun v i u wr => ∃ k : Nat, k ≤ n ∧ i = .int .i64 k ∧ Hid (OwnE wr w.heap.size v (edgesTo ms k)) ∧ Hid (RW w wr)) (fun _ i _ _ => n - (intOf i).toNat)
  case atStart => exact ⟨0, Nat.zero_le _, rfl, HO0, HR0⟩
  case round =>
    obtain ⟨k, hk, rfl, how, hrw⟩ := hrel
    by_cases hlt : k < n
    · have HLT := Lib.hid hlt
      obtain ⟨b, o, rfl, hc⟩ := (HE.out.below hrw.out).2.2 (by omega)
      have hck := hc k hlt
      have HST : Hid (edgesTo ms (k + 1) = if lowB ms k then edgesTo ms k ++ [((k : Int), gi ms k)] else edgesTo ms k) := rfl
      have HLB : Hid (lowB ms k = (decide ((k : Int) < gi ms k) && (decide (gi ms k < (n : Int)) && gi ms (gi ms k).toNat == k))) := by
        unfold Hid lowB
        rw [HM.out]
      have hki : (0 : Int) ≤ (k : Int) ∧ (k : Int) < (n : Int) := by omega
      have HLE := Lib.hid (edgesTo_length ms k)
      obtain ⟨x, hx⟩ : ∃ x, x = gi ms k := ⟨_, rfl⟩
      rw [← hx] at hck HST HLB
      have HX := Lib.hid hx
      clear hx
      by_cases q1 : (k : Int) < x
      · have d1 : decide ((k : Int) < x) = true := decide_eq_true q1
        by_cases q2 : x < (n : Int)
        · obtain ⟨y, rfl⟩ : ∃ y : Nat, x = y := ⟨x.toNat, by omega⟩
          have hyn : y < n := by omega
          have hcy := hc y hyn
          have hyi : (0 : Int) ≤ (y : Int) ∧ (y : Int) < (n : Int) := by omega
          have hq1 : k < y := by omega
          obtain ⟨z, hz⟩ : ∃ z, z = gi ms y := ⟨_, rfl⟩
          rw [← hz] at hcy
          have HZ : Hid (gi ms ((y : Int)).toNat = z) := by rw [Int.toNat_natCast]; exact hz.symm
          have HD : Hid (decide ((k : Int) < (y : Int)) = true ∧ decide ((y : Int) < (n : Int)) = true) := ⟨decide_eq_true (by omega), decide_eq_true (by omega)⟩
          clear hz hc d1
          cases q3 : (z == (k : Int))
          · have HN : Hid (edgesTo ms (k + 1) = edgesTo ms k) := by
              rw [HST.out, HLB.out, HZ.out, q3, if_neg (by simp)]
              rfl
            have HO1 : Hid (OwnE wr w.heap.size u3 (edgesTo ms (k + 1))) := by rw [HN.out]; exact how.out
            go_wp2_with fail
            go_roundw
            case rel => exact ⟨k + 1, by have := HLT.out; omega, by go_num, HO1, hrw⟩
            case measure => have := HLT.out; simp [intOf]; omega
          · have HN : Hid (edgesTo ms (k + 1) = edgesTo ms k ++ [((k : Int), (y : Int))]) := by
              rw [HST.out, HLB.out, HZ.out, q3, HD.out.1, HD.out.2]
              rfl
            go_wp2_with (at_builtin; refine app_edge (W := wr) w.heap.size wr.heap.size rfl rfl _ _ rfl u3 (edgesTo ms k) (k : Int) (y : Int) rfl rfl how.out (Below.size hrw.out) (by have := HLE.out; have := HLT.out; omega) ?_; intro v1 w5 own5 hB5 hg5)
            have HO1 : Hid (OwnE w5 w.heap.size v1 (edgesTo ms (k + 1))) := by rw [HN.out]; exact own5
            have HR5 : Hid (RW w w5) := hrw.out.trans hB5
            clear own5 hB5 hg5
            go_wp2_with fail
            go_roundw
            case rel => exact ⟨k + 1, by have := HLT.out; omega, by go_num, HO1, HR5⟩
            case measure => have := HLT.out; simp [intOf]; omega
        · have d2 : decide (x < (n : Int)) = false := decide_eq_false q2
          have HN : Hid (edgesTo ms (k + 1) = edgesTo ms k) := by
            rw [HST.out, HLB.out, d2, if_neg (by simp)]
            rfl
          have HO1 : Hid (OwnE wr w.heap.size u3 (edgesTo ms (k + 1))) := by rw [HN.out]; exact how.out
          clear hc q2
          go_wp2_with fail
          go_roundw
          case rel => exact ⟨k + 1, by have := HLT.out; omega, by go_num, HO1, hrw⟩
          case measure => have := HLT.out; simp [intOf]; omega
      · have d1 : decide ((k : Int) < x) = false := decide_eq_false q1
        have HN : Hid (edgesTo ms (k + 1) = edgesTo ms k) := by
          rw [HST.out, HLB.out, d1, if_neg (by simp)]
          rfl
        have HO1 : Hid (OwnE wr w.heap.size u3 (edgesTo ms (k + 1))) := by rw [HN.out]; exact how.out
        clear hc q1
        go_wp2_with fail
        go_roundw
        case rel => exact ⟨k + 1, by have := HLT.out; omega, by go_num, HO1, hrw⟩
        case measure => have := HLT.out; simp [intOf]; omega
    · obtain rfl : k = n := by omega
      have hd : decide ((k : Int) < (k : Int)) = false := by rw [decide_eq_false_iff_not]; omega
      have HEQ : Hid (edgesM ms = edgesTo ms k) := by unfold Hid edgesM; rw [HM.out]
      clear hlt hk
      go_wp2_with fail
      go_ret
      rw [HEQ.out]
      exact ⟨_, rfl, how.out, hrw.out⟩

set_option maxHeartbeats 1000000 in
set_option maxRecDepth 100000 in
theorem rsize_any {A : Option Addr} {n c : Nat} {ms : List Int} (w : World) (h : ReadI w A n ms) (hn : n ≤ 1000000) :
    Calls Tryz.prog 19 #[.slice A n c] w fun e w' => e = .returned (.int .i64 (edgesM ms).length) ∧ Below w.heap.size w w' := by
  have hr := redges_any (c := c) w h hn
  clear h
  go_enter Tryz.func19, Tryz.ntmps19
  go_wp2_with fail
  refine hr.mono ?_
  rintro e w1 ⟨v, rfl, ow, hb⟩
  obtain ⟨A1, c1, rfl, -, -, -⟩ := OwnE.read ow
  go_wp2_with fail
  go_ret
  exact ⟨rfl, hb⟩

set_option maxHeartbeats 2000000 in
set_option maxRecDepth 100000 in
theorem paired_any {A : Option Addr} {n c : Nat} {ms : List Int} (k : Nat) (hk : k < n) (w : World) (h : ReadI w A n ms) :
    Calls Tryz.prog 168 #[.slice A n c, .int .i64 (k : Int)] w fun e w' => e = .returned (.bool (pairB ms k)) ∧ Below w.heap.size w w' := by
  have HM := Lib.hid h.1
  obtain ⟨b, o, rfl, hc⟩ := h.2.2 (by omega)
  have hck := hc k hk
  have hki : (0 : Int) ≤ (k : Int) ∧ (k : Int) < (n : Int) := by omega
  have HB : Hid (Below w.heap.size w w) := Below.refl _ _
  have HP : Hid (pairB ms k = (decide (0 ≤ gi ms k) && (decide (gi ms k < (n : Int)) && (!(gi ms k == k) && gi ms (gi ms k).toNat == k)))) := by
    unfold Hid pairB
    rw [HM.out]
  clear h
  generalize hx : gi ms k = x at *
  clear hx
  by_cases q1 : 0 ≤ x
  · by_cases q2 : x < (n : Int)
    · obtain ⟨y, rfl⟩ : ∃ y : Nat, x = y := ⟨x.toNat, by omega⟩
      have hyn : y < n := by omega
      have hcy := hc y hyn
      have hyi : (0 : Int) ≤ (y : Int) ∧ (y : Int) < (n : Int) := by omega
      rw [Int.toNat_natCast] at HP
      generalize gi ms y = z at *
      clear hc q1 q2
      have d2 : decide ((y : Int) < (n : Int)) = true := decide_eq_true hyi.2
      have d1 : decide ((0 : Int) ≤ (y : Int)) = true := decide_eq_true hyi.1
      cases q3 : ((y : Int) == (k : Int))
      · have q4 : ((y : Int) != (k : Int)) = true := by simp [bne, q3]
        cases q5 : (z == (k : Int))
        all_goals
          rw [d1, d2, q3, q5] at HP
          have HPP := Lib.hid HP.out
          clear HP d1 d2
          go_enter Tryz.func168, Tryz.ntmps168
          go_wp2_with fail
          go_ret
          exact ⟨by rw [HPP.out]; rfl, HB.out⟩
      · have q4 : ((y : Int) != (k : Int)) = false := by simp [bne, q3]
        rw [d1, d2, q3] at HP
        have HPP := Lib.hid HP.out
        clear HP d1 d2
        go_enter Tryz.func168, Tryz.ntmps168
        go_wp2_with fail
        go_ret
        exact ⟨by rw [HPP.out]; rfl, HB.out⟩
    · have d2 : decide (x < (n : Int)) = false := decide_eq_false q2
      have HPP : Hid (pairB ms k = false) := by rw [HP.out, d2]; simp [Hid]
      clear hc q2 HP
      go_enter Tryz.func168, Tryz.ntmps168
      go_wp2_with fail
      go_ret
      exact ⟨by rw [HPP.out]; rfl, HB.out⟩
  · have d1 : decide (0 ≤ x) = false := decide_eq_false q1
    have HPP : Hid (pairB ms k = false) := by rw [HP.out, d1]; rfl
    clear hc q1 HP
    go_enter Tryz.func168, Tryz.ntmps168
    go_wp2_with fail
    go_ret
    exact ⟨by rw [HPP.out]; rfl, HB.out⟩

set_option maxHeartbeats 4000000 in
set_option maxRecDepth 100000 in
theorem such_any {A : Option Addr} {n c : Nat} {ms : List Int} (F : FuncId) (p : Nat → Bool) (w : World) (h : ReadI w A n ms) (hn : n ≤ 1000000) (hFn : F = 168 ∨ F = 289)
    (hF : ∀ k, k < n → ∀ W, ReadI W A n ms → Calls Tryz.prog F #[.slice A n c, .int .i64 (k : Int)] W fun e w' => e = .returned (.bool (p k)) ∧ Below W.heap.size W w') :
    Calls Tryz.prog 167 #[.slice A n c, .func (.func F) #[] #[]] w fun e w' => ∃ v, e = .returned v ∧ OwnI w' w.heap.size v (sel p n) ∧ Below w.heap.size w w' := by
  have HE := Lib.hid h
  have HFF := Lib.hid hF
  have HR0 : Hid (RW w w) := RW.refl w
  have HO0 : Hid (OwnI w w.heap.size (.slice none 0 0) (sel p 0)) := ownI_empty _ _
  clear h hF
  rcases hFn with rfl | rfl
  all_goals
    go_enter Tryz.func167, Tryz.ntmps167
    go_wp2_with fail
    go_loopw [5, 6, 9] (fun v u i wr => ∃ k : Nat, k ≤ n ∧ i = .int .i64 k ∧ Hid (OwnI wr w.heap.size v (sel p k)) ∧ Hid (RW w wr)) (fun _ _ i _ => n - (intOf i).toNat)
    case atStart => exact ⟨0, Nat.zero_le _, rfl, HO0, HR0⟩
    case round =>
      obtain ⟨k, hk, rfl, how, hrw⟩ := hrel
      by_cases hlt : k < n
      · have HLT := Lib.hid hlt
        have hf := HFF.out k hlt wr (HE.out.below hrw.out)
        have HST : Hid (sel p (k + 1) = if p k then sel p k ++ [(k : Int)] else sel p k) := rfl
        have HLE := Lib.hid (sel_length p k)
        cases hp : p k
        · rw [hp] at hf
          have HN : Hid (sel p (k + 1) = sel p k) := by rw [HST.out, hp]; rfl
          clear hp HST
          go_wp2_with fail
          refine hf.mono ?_
          rintro e w5 ⟨rfl, hb5⟩
          have HO1 : Hid (OwnI w5 w.heap.size u5 (sel p (k + 1))) := by rw [HN.out]; exact how.out.later hb5
          have HR5 := Lib.hid (RW.later hrw.out hb5)
          clear hf hb5
          go_wp2_with fail
          go_roundw
          case rel => exact ⟨k + 1, by have := HLT.out; omega, by go_num, HO1, HR5⟩
          case measure => have := HLT.out; simp [intOf]; omega
        · rw [hp] at hf
          have HN : Hid (sel p (k + 1) = sel p k ++ [(k : Int)]) := by rw [HST.out, hp]; rfl
          clear hp HST
          go_wp2_with fail
          refine hf.mono ?_
          rintro e w5 ⟨rfl, hb5⟩
          have HO5 := Lib.hid (how.out.later hb5)
          have HR5 := Lib.hid (RW.later hrw.out hb5)
          clear hf hb5
          go_wp2_with (at_builtin; refine app_intz (W := w5) w.heap.size w5.heap.size rfl rfl _ _ rfl u5 (sel p k) (k : Int) rfl rfl HO5.out (Below.size HR5.out) (by have := HLE.out; have := HLT.out; omega) ?_; intro v1 w8 own8 hB8 hg8)
          have HO1 : Hid (OwnI w8 w.heap.size v1 (sel p (k + 1))) := by rw [HN.out]; exact own8
          have HR8 : Hid (RW w w8) := HR5.out.trans hB8
          clear own8 hB8 hg8
          go_wp2_with fail
          go_roundw
          case rel => exact ⟨k + 1, by have := HLT.out; omega, by go_num, HO1, HR8⟩
          case measure => have := HLT.out; simp [intOf]; omega
      · obtain rfl : k = n := by omega
        have hd : decide ((k : Int) < (k : Int)) = false := by rw [decide_eq_false_iff_not]; omega
        clear hlt hk
        go_wp2_with fail
        go_ret
        exact ⟨_, rfl, how.out, hrw.out⟩

theorem suchP_any {A : Option Addr} {n c : Nat} {ms : List Int} (w : World) (h : ReadI w A n ms) (hn : n ≤ 1000000) :
    Calls Tryz.prog 167 #[.slice A n c, .func (.func 168) #[] #[]] w fun e w' => ∃ v, e = .returned v ∧ OwnI w' w.heap.size v (sel (pairB ms) n) ∧ Below w.heap.size w w' :=
  such_any 168 (pairB ms) w h hn (.inl rfl) fun k hk W hW => paired_any k hk W hW
/-- How many edges mates make. -/
theorem pair_len2 {ms : List Int} {n : Nat} (h : ms.length = n) : (sel (pairB ms) n).length = 2 * (edgesM ms).length := by rw [← h]; exact pair_len ms

set_option maxHeartbeats 1000000 in
set_option maxRecDepth 100000 in
theorem msize_any {A : Option Addr} {n c : Nat} {ms : List Int} (w : World) (h : ReadI w A n ms) (hn : n ≤ 1000000) :
    Calls Tryz.prog 132 #[.slice A n c] w fun e w' => e = .returned (.int .i64 (edgesM ms).length) ∧ Below w.heap.size w w' := by
  have hr := suchP_any (c := c) w h hn
  have HP := Lib.hid (pair_len2 h.1)
  have HQ : Hid ((edgesM ms).length ≤ 1000000) := by
    have := edgesTo_length ms ms.length
    have := h.1
    unfold Hid edgesM
    omega
  clear h
  go_enter Tryz.func132, Tryz.ntmps132
  go_wp2_with fail
  refine hr.mono ?_
  rintro e w1 ⟨v, rfl, ow, hb⟩
  obtain ⟨A1, c1, rfl, -, -, -⟩ := OwnI.read ow
  rw [HP.out]
  have HW : Hid (Below w.heap.size w w1) := hb
  clear hr ow hb
  have hq := HQ.out
  have e0 : (0 : Int) ≤ ((2 * (edgesM ms).length : Nat) : Int) ∧ ((2 * (edgesM ms).length : Nat) : Int) ≤ 2000000 := by omega
  go_wp2_with fail
  go_ret
  exact ⟨ret_int (by omega), HW.out⟩

/-- The edges of mates, out of those that are paired. -/
def pickE (ms : List Int) : List Int → List Ed
  | [] => []
  | v :: l => if v < gi ms v.toNat then (v, gi ms v.toNat) :: pickE ms l else pickE ms l
theorem pickE_app (ms : List Int) : ∀ a b : List Int, pickE ms (a ++ b) = pickE ms a ++ pickE ms b
  | [], b => rfl
  | v :: a, b => by
    rw [List.cons_append, pickE, pickE, pickE_app ms a b]
    split <;> rfl
theorem pickE_le (ms : List Int) : ∀ a : List Int, (pickE ms a).length ≤ a.length
  | [] => Nat.le_refl _
  | v :: a => by
    have := pickE_le ms a
    rw [pickE]
    split
    · simp
      omega
    · simp
      omega
theorem pickE_sel (ms : List Int) : ∀ k, pickE ms (sel (pairB ms) k) = edgesTo ms k
  | 0 => rfl
  | k + 1 => by
    rw [sel, edgesTo]
    have hs := pair_split ms k
    cases hp : pairB ms k
    · rw [hp] at hs
      have hl : lowB ms k = false := by
        cases q : lowB ms k
        · rfl
        · rw [q] at hs
          simp at hs
      rw [hl]
      exact pickE_sel ms k
    · simp only [if_true]
      rw [pickE_app, pickE_sel ms k, pickE, Int.toNat_natCast]
      cases hl : lowB ms k
      · rw [if_neg]
        · simp [pickE]
        · intro q
          unfold pairB at hp
          unfold lowB at hl
          simp at hp hl
          exact hl q hp.2.1 hp.2.2.2
      · rw [if_pos]
        · rfl
        · unfold lowB at hl
          simp at hl
          exact hl.1

set_option maxHeartbeats 4000000 in
set_option maxRecDepth 100000 in
theorem medges_any {A : Option Addr} {n c : Nat} {ms : List Int} (w : World) (h : ReadI w A n ms) (hn : n ≤ 1000000) :
    Calls Tryz.prog 133 #[.slice A n c] w fun e w' => ∃ v, e = .returned v ∧ OwnE w' w.heap.size v (edgesM ms) ∧ Below w.heap.size w w' := by
  have hr := suchP_any (c := c) w h hn
  have HE := Lib.hid h
  have HM := Lib.hid h.1
  clear h
  go_enter Tryz.func133, Tryz.ntmps133
  go_wp2_with fail
  refine hr.mono ?_
  rintro e w1 ⟨v, rfl, ow, hb⟩
  obtain ⟨A1, c1, rfl, -, -, hr1⟩ := OwnI.read ow
  have HB := Lib.hid hb
  have HRD := Lib.hid hr1
  have HEQ : Hid (edgesM ms = pickE ms (sel (pairB ms) n)) := by unfold Hid edgesM; rw [HM.out, pickE_sel]
  have HIN : Hid (∀ j, j < (sel (pairB ms) n).length → ∃ v : Nat, gi (sel (pairB ms) n) j = v ∧ v < n) := fun j hj => by
    obtain ⟨i, hi, -, he⟩ := mem_sel.1 (gi_mem hj)
    exact ⟨i, he, hi⟩
  have HLS : Hid ((sel (pairB ms) n).length ≤ 1000000) := Nat.le_trans (sel_length _ _) hn
  clear hr ow hb hr1
  generalize sel (pairB ms) n = l at *
  obtain ⟨ln, hln⟩ : ∃ ln, ln = l.length := ⟨_, rfl⟩
  rw [← hln] at HRD HIN HLS ⊢
  have HLN := Lib.hid hln
  have HR0 : Hid (RW w1 w1) := RW.refl w1
  have HO0 : Hid (OwnE w1 w1.heap.size (.slice none 0 0) (pickE ms (l.take 0))) := by rw [List.take_zero]; exact ownE_empty _ _
  have hl9 : ln ≤ 1000000 := HLS.out
  clear hln
  go_wp2_with fail
  go_loopw [3, 5, 9] (fun v u i wr => ∃ k : Nat, k ≤ ln ∧ i = .int .i64 k ∧ Hid (OwnE wr w1.heap.size v (pickE ms (l.take k))) ∧ Hid (RW w1 wr)) (fun _ _ i _ => ln - (intOf i).toNat)
  case atStart => exact ⟨0, Nat.zero_le _, rfl, HO0, HR0⟩
  case round =>
    obtain ⟨k, hk, rfl, how, hrw⟩ := hrel
    by_cases hlt : k < ln
    · have HLT := Lib.hid hlt
      obtain ⟨b, o, rfl, hc⟩ := (HRD.out.below hrw.out).2.2 (by omega)
      have hck := hc k hlt
      obtain ⟨y, hy, hyn⟩ := HIN.out k hlt
      rw [hy] at hck
      obtain ⟨b', o', rfl, hcm⟩ := (HE.out.below (bel_trans HB.out hrw.out)).2.2 (by omega)
      have hcy := hcm y hyn
      have hyi : (0 : Int) ≤ (y : Int) ∧ (y : Int) < (n : Int) := by omega
      have HST : Hid (pickE ms (l.take (k + 1)) = if (y : Int) < gi ms y then pickE ms (l.take k) ++ [((y : Int), gi ms y)] else pickE ms (l.take k)) := by
        unfold Hid
        rw [take_succ_eq (by have := HLN.out; omega), pickE_app, hy, pickE, Int.toNat_natCast]
        split
        · rfl
        · simp [pickE]
      have HLE : Hid ((pickE ms (l.take k)).length ≤ 1000000) := by
        have := pickE_le ms (l.take k)
        rw [List.length_take] at this
        have := HLN.out
        have := HLS.out
        unfold Hid
        omega
      clear hc hcm hy
      generalize gi ms y = x at *
      by_cases q : (y : Int) < x
      · have HN : Hid (pickE ms (l.take (k + 1)) = pickE ms (l.take k) ++ [((y : Int), x)]) := by rw [HST.out, if_pos q]; rfl
        clear HST
        go_wp2_with (at_builtin; refine app_edge (W := wr) w1.heap.size wr.heap.size rfl rfl _ _ rfl u3 (pickE ms (l.take k)) (y : Int) x rfl rfl how.out (Below.size hrw.out) (by have := HLE.out; omega) ?_; intro v1 w5 own5 hB5 hg5)
        have HO1 : Hid (OwnE w5 w1.heap.size v1 (pickE ms (l.take (k + 1)))) := by rw [HN.out]; exact own5
        have HR5 : Hid (RW w1 w5) := hrw.out.trans hB5
        clear own5 hB5 hg5
        go_wp2_with fail
        go_roundw
        case rel => exact ⟨k + 1, by have := HLT.out; omega, by go_num, HO1, HR5⟩
        case measure => have := HLT.out; simp [intOf]; omega
      · have hq : decide ((y : Int) < x) = false := decide_eq_false q
        have HN : Hid (pickE ms (l.take (k + 1)) = pickE ms (l.take k)) := by rw [HST.out, if_neg q]; rfl
        have HO1 : Hid (OwnE wr w1.heap.size u3 (pickE ms (l.take (k + 1)))) := by rw [HN.out]; exact how.out
        clear HST q
        go_wp2_with fail
        go_roundw
        case rel => exact ⟨k + 1, by have := HLT.out; omega, by go_num, HO1, hrw⟩
        case measure => have := HLT.out; simp [intOf]; omega
    · obtain rfl : k = ln := by omega
      have hd : decide ((k : Int) < (k : Int)) = false := by rw [decide_eq_false_iff_not]; omega
      have HFN : Hid (OwnE wr w.heap.size u3 (edgesM ms)) := by
        rw [HEQ.out]
        have := row_weaken how.out (base' := w.heap.size) (Below.size HB.out)
        rw [List.take_of_length_le (by have := HLN.out; omega)] at this
        exact this
      clear hlt hk
      go_wp2_with fail
      go_ret
      exact ⟨_, rfl, HFN.out, bel_trans HB.out hrw.out⟩
end

section
open Go.RowKit
theorem rightM_noG {N : Int} {es : List Ed} {ms : List Int} (h : rightB N es = false) : rightM N es ms = false := by unfold rightM; rw [h]; rfl
theorem rightM_len {N : Int} {es : List Ed} {ms : List Int} (h : (ms.length : Int) ≠ N) : rightM N es ms = false := by unfold rightM; simp [h]
theorem rightM_to {N : Int} {es : List Ed} {ms : List Int} (hr : rightB N es = true) (h : (ms.length : Int) = N) : rightM N es ms = rightTo N es ms ms.length := by unfold rightM; rw [hr]; simp [h]
end

end Go.Proofs.YtbnipgajhpbolaaGreatDoor
