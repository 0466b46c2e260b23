/- The walks of greedy.Full and garlandref10.Full. -/
import Derived.Test.YtnldfjoadmehcaaRFirst
import Derived.Test.YtnldfjoadmehcaaMRight
import Derived.Test.YtnldfjoadmehcaaSubPure
import Derived.Laws.EntriesVeiled
set_option linter.unusedVariables false
set_option linter.unusedSimpArgs false
namespace Go.Proofs.Ytnldfjoadmehcaa
open Go.RowKit

/-- Are both ends of an edge free? -/
def bothB (ms : List Int) (e : Ed) : Bool := decide (gi ms e.1.toNat < 0) && decide (gi ms e.2.toNat < 0)
/-- The first edge from k on whose ends are both free; -1 if there is none. -/
def scanE (ms : List Int) (es : List Ed) : Nat → Nat → Int
  | 0, _ => -1
  | d + 1, k => if bothB ms (ge es k) = true then (k : Int) else scanE ms es d (k + 1)
/-- Can nothing be added to a matching? -/
def fullB (N : Int) (es : List Ed) (ms : List Int) : Bool := rightM N es ms && !(decide (0 ≤ scanE ms es es.length 0))

set_option maxHeartbeats 2000000 in
set_option maxRecDepth 100000 in
theorem fullC_any {A : Option Addr} {n c g x y : Nat} {ms : List Int} (w : World) (h : ReadI w A n ms) (hx : x < n) (hy : y < n) (hg : w.cell? ⟨g, 0, none⟩ = some (.func (.func 75) #[.agg #[.slice A n c]] #[])) :
    Calls Try.prog 79 #[.agg #[.int .i64 (x : Int), .int .i64 (y : Int)], .pointer (some ⟨g, 0, none⟩)] w fun e w' => e = .returned (.bool (bothB ms ((x : Int), (y : Int)))) ∧ Below w.heap.size w w' := by
  have hb1 := bel_alloc w (.cells #[.int .i64 (x : Int), .int .i64 (y : Int)] 41)
  have hg1 := cell_later hb1 hg
  have hf1 := sfree_any (c := c) x hx _ (h.below hb1)
  have hc1 : (w.alloc (.cells #[.int .i64 (x : Int), .int .i64 (y : Int)] 41)).cell? ⟨w.heap.size, 0, none⟩ = some (.int .i64 (x : Int)) ∧ (w.alloc (.cells #[.int .i64 (x : Int), .int .i64 (y : Int)] 41)).cell? ⟨w.heap.size, 1, none⟩ = some (.int .i64 (y : Int)) := ⟨(cell_blk (heap_alloc_new _ _) 0).trans rfl, (cell_blk (heap_alloc_new _ _) 1).trans rfl⟩
  have HC1 := Lib.hid hc1
  have HB1 := Lib.hid hb1
  have HG1 := Lib.hid hg1
  have HR1 := Lib.hid (h.below hb1)
  have HBO : Hid (bothB ms ((x : Int), (y : Int)) = (decide (gi ms x < 0) && decide (gi ms y < 0))) := by unfold Hid bothB; simp
  clear hb1 h hg
  go_enter Try.func79, Try.ntmps79
  obtain ⟨z0, z1⟩ := hc1
  go_wp2_with fail
  generalize w.alloc (.cells #[.int .i64 (x : Int), .int .i64 (y : Int)] 41) = w1 at *
  cases q1 : decide (gi ms x < 0)
  · rw [q1] at hf1
    have HF : Hid (bothB ms ((x : Int), (y : Int)) = false) := by rw [HBO.out, q1]; rfl
    clear q1
    refine hf1.mono ?_
    rintro e w2 ⟨rfl, hb2⟩
    have HB2 := Lib.hid (bel_trans HB1.out hb2)
    go_wp2_with fail
    go_ret
    exact ⟨by rw [HF.out]; rfl, HB2.out⟩
  · rw [q1] at hf1
    have HF : Hid (bothB ms ((x : Int), (y : Int)) = decide (gi ms y < 0)) := by rw [HBO.out, q1]; rfl
    clear q1
    refine hf1.mono ?_
    rintro e w2 ⟨rfl, hb2⟩
    have HB2 := Lib.hid (bel_trans HB1.out hb2)
    have hg2 := cell_later hb2 HG1.out
    obtain ⟨z0, z1⟩ := later2 hb2 HC1.out
    have hf2 := sfree_any (c := c) y hy _ (HR1.out.below hb2)
    go_wp2_with fail
    refine hf2.mono ?_
    rintro e w3 ⟨rfl, hb3⟩
    have HB3 := Lib.hid (bel_trans HB2.out hb3)
    go_wp2_with fail
    go_ret
    exact ⟨by rw [HF.out]; rfl, HB3.out⟩

set_option maxHeartbeats 4000000 in
set_option maxRecDepth 100000 in
theorem indexE_any {A B : Option Addr} {n c m cb g : Nat} {es : List Ed} {ms : List Int} (w : World) (hx : ReadE w A n es) (hm : ReadI w B m ms) (hin : ∀ j, j < n → ∃ x y : Nat, ge es j = ((x : Int), (y : Int)) ∧ x < m ∧ y < m)
    (hg : w.cell? ⟨g, 0, none⟩ = some (.func (.func 75) #[.agg #[.slice B m cb]] #[])) :
    Calls Try.prog 97 #[.slice A n c, .func (.func 79) #[] #[.pointer (some ⟨g, 0, none⟩)]] w fun e w' => e = .returned (.int .i64 (scanE ms es n 0)) ∧ Below w.heap.size w w' := by
  have HX := Lib.hid hx
  have HM := Lib.hid hm
  have HIN := Lib.hid hin
  have HG := Lib.hid hg
  have hn := hx.2.1
  have HR0 : Hid (RW w w) := RW.refl w
  obtain ⟨ans, hans⟩ : ∃ a, a = scanE ms es n 0 := ⟨_, rfl⟩
  rw [← hans]
  have HS0 : Hid (ans = scanE ms es (n - 0) 0) := hans
  clear hx hm hin hans hg
  go_enter Try.func97, Try.ntmps97
  go_wp2_with fail
  go_loopw [8] (fun i wr => ∃ k : Nat, k ≤ n ∧ i = .int .i64 k ∧ Hid (ans = scanE ms es (n - k) k) ∧ Hid (RW w wr)) (fun i _ => n - (intOf i).toNat)
  case atStart => exact ⟨0, Nat.zero_le _, rfl, HS0, HR0⟩
  case round =>
    obtain ⟨k, hk, rfl, hans, hrw⟩ := hrel
    by_cases hlt : k < n
    · obtain ⟨b, o, rfl, hc⟩ := (HX.out.below hrw.out).2.2 (by omega)
      obtain ⟨hck, hck2⟩ := hc k hlt
      obtain ⟨x, y, he, hxm, hym⟩ := HIN.out k hlt
      have HST : Hid (ans = if bothB ms (ge es k) = true then (k : Int) else scanE ms es (n - (k + 1)) (k + 1)) := by
        have := hans.out
        rw [show n - k = (n - (k + 1)) + 1 from by omega] at this
        exact this
      have HLT := Lib.hid hlt
      rw [he] at hck hck2
      have HST2 : Hid (ans = if bothB ms ((x : Int), (y : Int)) = true then (k : Int) else scanE ms es (n - (k + 1)) (k + 1)) := by rw [← he]; exact HST.out
      simp only [] at hck hck2
      have hfr := fullC_any (c := cb) wr (HM.out.below hrw.out) hxm hym (cell_later hrw.out HG.out)
      clear hc he HST
      cases hq : bothB ms ((x : Int), (y : Int))
      · have HA : Hid (ans = scanE ms es (n - (k + 1)) (k + 1)) := by
          have := HST2.out
          rw [hq, if_neg (by simp)] at this
          exact this
        rw [hq] at hfr
        clear hq HST2
        go_wp2_with fail
        refine hfr.mono ?_
        rintro e w5 ⟨rfl, hb5⟩
        go_wp2_with fail
        go_roundw
        case rel => exact ⟨k + 1, by have := HLT.out; omega, by go_num, HA, Lib.hid (RW.later hrw.out hb5)⟩
        case measure => have := HLT.out; simp [intOf]; omega
      · have HA : Hid (ans = (k : Int)) := by
          have := HST2.out
          rw [hq, if_pos rfl] at this
          exact this
        rw [hq] at hfr
        clear hq HST2
        go_wp2_with fail
        refine hfr.mono ?_
        rintro e w5 ⟨rfl, hb5⟩
        have HR5 := Lib.hid (RW.later hrw.out hb5)
        go_wp2_with fail
        go_ret
        exact ⟨by rw [HA.out]; rfl, HR5.out⟩
    · obtain rfl : k = n := by omega
      have HA : Hid (ans = -1) := by
        have := hans.out
        rw [Nat.sub_self] at this
        exact this
      have hd : decide ((k : Int) < (k : Int)) = false := by rw [decide_eq_false_iff_not]; omega
      clear hlt hk
      go_wp2_with fail
      go_ret
      exact ⟨by rw [HA.out]; rfl, hrw.out⟩

theorem scanE_neg {ms : List Int} {es : List Ed} : ∀ {d k : Nat}, scanE ms es d k = -1 ∨ 0 ≤ scanE ms es d k
  | 0, k => .inl rfl
  | d + 1, k => by
    rw [scanE]
    split
    · exact .inr (by omega)
    · exact scanE_neg

set_option maxHeartbeats 2000000 in
set_option maxRecDepth 100000 in
theorem containsE_any {A B : Option Addr} {n c m cb g : Nat} {es : List Ed} {ms : List Int} (w : World) (hx : ReadE w A n es) (hm : ReadI w B m ms) (hin : ∀ j, j < n → ∃ x y : Nat, ge es j = ((x : Int), (y : Int)) ∧ x < m ∧ y < m)
    (hg : w.cell? ⟨g, 0, none⟩ = some (.func (.func 75) #[.agg #[.slice B m cb]] #[])) :
    Calls Try.prog 78 #[.slice A n c, .func (.func 79) #[] #[.pointer (some ⟨g, 0, none⟩)]] w fun e w' => e = .returned (.bool (decide (0 ≤ scanE ms es n 0))) ∧ Below w.heap.size w w' := by
  have hi := indexE_any (c := c) w hx hm hin hg
  clear hx hm hin hg
  go_enter Try.func78, Try.ntmps78
  go_wp2_with fail
  refine hi.mono ?_
  rintro e w5 ⟨rfl, hb5⟩
  go_wp2_with fail
  go_ret
  exact ⟨rfl, hb5⟩

set_option maxHeartbeats 4000000 in
set_option maxRecDepth 100000 in
theorem full_any {A B : Option Addr} {n c m d : Nat} {es : List Ed} {ms : List Int} (N : Int) (w : World) (h : ReadE w A n es) (hl : ReadI w B m ms) :
    Calls Try.prog 39 #[.agg #[.int .i64 N, .slice A n c], .slice B m d] w fun e w' => e = .returned (.bool (fullB N es ms)) ∧ Below w.heap.size w w' := by
  have hb1 := bel_alloc w (gcells N A n c)
  have HX := Lib.hid (boxg w N A n c)
  have HB1 := Lib.hid hb1
  have HE := Lib.hid h
  have HL := Lib.hid hl
  have HLM := Lib.hid hl.1
  have HEL := Lib.hid h.1
  clear hb1 h hl
  go_enter Try.func39, Try.ntmps39
  obtain ⟨x0, x1⟩ := HX.out
  go_wp2_with fail
  have hb2 : Below w.heap.size w ((w.alloc (gcells N A n c)).alloc (.cells #[.func (.func 75) #[.agg #[.slice B m d]] #[]] 86)) := bel_trans HB1.out (bel_alloc _ _)
  have hg2 : ((w.alloc (gcells N A n c)).alloc (.cells #[.func (.func 75) #[.agg #[.slice B m d]] #[]] 86)).cell? ⟨w.heap.size + 1, 0, none⟩ = some (.func (.func 75) #[.agg #[.slice B m d]] #[]) := by
    simp
  have hx2 := later2 (bel_alloc (w.alloc (gcells N A n c)) (.cells #[.func (.func 75) #[.agg #[.slice B m d]] #[]] 86)) HX.out
  have HB2 := Lib.hid hb2
  have HG2 := Lib.hid hg2
  have HX2 := Lib.hid hx2
  clear hb2 hg2 hx2 x0 x1
  generalize (w.alloc (gcells N A n c)).alloc (.cells #[.func (.func 75) #[.agg #[.slice B m d]] #[]] 86) = w2 at *
  have hr := mright_any (c := c) (d := d) N w2 (HE.out.below HB2.out) (HL.out.below HB2.out)
  cases hR : rightM N es ms
  · have HF : Hid (fullB N es ms = false) := by unfold Hid fullB; rw [hR]; rfl
    rw [hR] at hr
    clear hR
    refine hr.mono ?_
    rintro e w3 ⟨rfl, hb3⟩
    have HB3 := Lib.hid (bel_trans HB2.out hb3)
    go_wp2_with fail
    go_ret
    exact ⟨by rw [HF.out]; rfl, HB3.out⟩
  · have HF : Hid (fullB N es ms = !(decide (0 ≤ scanE ms es n 0))) := by unfold Hid fullB; rw [hR, HEL.out]; rfl
    have HIN : Hid (∀ j, j < n → ∃ x y : Nat, ge es j = ((x : Int), (y : Int)) ∧ x < m ∧ y < m) := fun j hj => by
      have hrb : rightB N es = true := by
        unfold rightM at hR
        simp only [Bool.and_eq_true] at hR
        exact hR.1
      have hlen : (ms.length : Int) = N := by
        unfold rightM at hR
        simp only [Bool.and_eq_true, decide_eq_true_eq] at hR
        exact hR.2.1
      have hl := HLM.out
      subst hlen
      obtain ⟨x, y, h1, h2, h3⟩ := edge_nat ((rightB_iff.1 hrb).2.2.2.1 _ (show ge es j ∈ es by rw [ge_get (by have := HEL.out; omega)]; exact List.getElem_mem _))
      exact ⟨x, y, h1, by omega, by omega⟩
    rw [hR] at hr
    clear hR
    refine hr.mono ?_
    rintro e w3 ⟨rfl, hb3⟩
    have HB3 := Lib.hid (bel_trans HB2.out hb3)
    obtain ⟨y0, y1⟩ := later2 hb3 HX2.out
    have hco := containsE_any (c := c) (cb := d) w3 (HE.out.below HB3.out) (HL.out.below HB3.out) HIN.out (cell_later hb3 HG2.out)
    clear hr hb3
    go_wp2_with fail
    refine hco.mono ?_
    rintro e w4 ⟨rfl, hb4⟩
    have HB4 := Lib.hid (bel_trans HB3.out hb4)
    clear hco hb4
    go_wp2_with fail
    go_ret
    exact ⟨by rw [HF.out]; rfl, HB4.out⟩

set_option maxHeartbeats 8000000 in
set_option maxRecDepth 100000 in
theorem rfull_any {A B : Option Addr} {n c m d : Nat} {es : List Ed} {ms : List Int} (N : Int) (w : World) (h : ReadE w A n es) (hl : ReadI w B m ms) :
    Calls Try.prog 40 #[.agg #[.int .i64 N, .slice A n c], .slice B m d] w fun e w' => e = .returned (.bool (fullB N es ms)) ∧ Below w.heap.size w w' := by
  have hb1 := bel_alloc w (gcells N A n c)
  have HX := Lib.hid (boxg w N A n c)
  have HB1 := Lib.hid hb1
  have HE := Lib.hid h
  have HL := Lib.hid hl
  have HLM := Lib.hid hl.1
  have HEL := Lib.hid h.1
  have hn9 := h.2.1
  have hr := rright_any (c := c) (d := d) N _ (h.below hb1) (hl.below hb1)
  clear hb1 h hl
  go_enter Try.func40, Try.ntmps40
  obtain ⟨x0, x1⟩ := HX.out
  go_wp2_with fail
  generalize w.alloc (gcells N A n c) = w1 at *
  cases hR : rightM N es ms
  · have HF : Hid (fullB N es ms = false) := by unfold Hid fullB; rw [hR]; rfl
    rw [hR] at hr
    clear hR
    refine hr.mono ?_
    rintro e w3 ⟨rfl, hb3⟩
    have HB3 := Lib.hid (bel_trans HB1.out hb3)
    go_wp2_with fail
    go_ret
    exact ⟨by rw [HF.out]; rfl, HB3.out⟩
  · have HF : Hid (fullB N es ms = !(decide (0 ≤ scanE ms es n 0))) := by unfold Hid fullB; rw [hR, HEL.out]; rfl
    have HIN : Hid (∀ j, j < n → ∃ x y : Nat, ge es j = ((x : Int), (y : Int)) ∧ x < m ∧ y < m) := fun j hj => by
      have hrb : rightB N es = true := by
        unfold rightM at hR
        simp only [Bool.and_eq_true] at hR
        exact hR.1
      have hlen : (ms.length : Int) = N := by
        unfold rightM at hR
        simp only [Bool.and_eq_true, decide_eq_true_eq] at hR
        exact hR.2.1
      have hl := HLM.out
      subst hlen
      obtain ⟨x, y, h1, h2, h3⟩ := edge_nat ((rightB_iff.1 hrb).2.2.2.1 _ (show ge es j ∈ es by rw [ge_get (by have := HEL.out; omega)]; exact List.getElem_mem _))
      exact ⟨x, y, h1, by omega, by omega⟩
    rw [hR] at hr
    clear hR
    refine hr.mono ?_
    rintro e w3 ⟨rfl, hb3⟩
    have HB3 := Lib.hid (bel_trans HB1.out hb3)
    have HX3 := Lib.hid (later2 hb3 HX.out)
    clear hr hb3 x0 x1
    obtain ⟨ans, hans⟩ : ∃ a, a = scanE ms es n 0 := ⟨_, rfl⟩
    rw [← hans] at HF
    have HS0 : Hid (ans = scanE ms es (n - 0) 0) := hans
    clear hans
    go_wp2_with fail
    go_loopw [5] (fun i wr => ∃ k : Nat, k ≤ n ∧ i = .int .i64 k ∧ Hid (ans = scanE ms es (n - k) k) ∧ Hid (RW w3 wr)) (fun i _ => n - (intOf i).toNat)
    case atStart => exact ⟨0, Nat.zero_le _, rfl, HS0, RW.refl w3⟩
    case round =>
      obtain ⟨k, hk, rfl, hans, hrw⟩ := hrel
      obtain ⟨x0, x1⟩ := later2 hrw.out HX3.out
      have HBR := Lib.hid (bel_trans HB3.out hrw.out)
      by_cases hlt : k < n
      · obtain ⟨b, o, rfl, hc⟩ := (HE.out.below HBR.out).2.2 (by omega)
        obtain ⟨hck, hck2⟩ := hc k hlt
        obtain ⟨x, y, he, hxm, hym⟩ := HIN.out k hlt
        obtain ⟨b', o', rfl, hcm⟩ := (HL.out.below HBR.out).2.2 (by omega)
        have hmx := hcm x hxm
        have hmy := hcm y hym
        have HST : Hid (ans = if (decide (gi ms x < 0) && decide (gi ms y < 0)) = true then (k : Int) else scanE ms es (n - (k + 1)) (k + 1)) := by
          have := hans.out
          rw [show n - k = (n - (k + 1)) + 1 from by omega, scanE, he] at this
          unfold bothB at this
          simp only [Int.toNat_natCast] at this
          exact this
        have HLT := Lib.hid hlt
        rw [he] at hck hck2
        simp only [] at hck hck2
        have hki : (0 : Int) ≤ (k : Int) ∧ (k : Int) < (n : Int) := by omega
        have hxi : (0 : Int) ≤ (x : Int) ∧ (x : Int) < (m : Int) := by omega
        have hyi : (0 : Int) ≤ (y : Int) ∧ (y : Int) < (m : Int) := by omega
        clear hc he hcm
        generalize gi ms x = fx at *
        generalize gi ms y = fy at *
        cases q1 : decide (fx < 0)
        · have HA : Hid (ans = scanE ms es (n - (k + 1)) (k + 1)) := by
            have := HST.out
            rw [q1, if_neg (by simp)] at this
            exact this
          clear HST
          go_wp2_with fail
          go_roundw
          case rel => exact ⟨k + 1, by have := HLT.out; omega, by go_num, HA, hrw⟩
          case measure => have := HLT.out; simp [intOf]; omega
        · cases q2 : decide (fy < 0)
          · have HA : Hid (ans = scanE ms es (n - (k + 1)) (k + 1)) := by
              have := HST.out
              rw [q1, q2, if_neg (by simp)] at this
              exact this
            clear HST
            go_wp2_with fail
            go_roundw
            case rel => exact ⟨k + 1, by have := HLT.out; omega, by go_num, HA, hrw⟩
            case measure => have := HLT.out; simp [intOf]; omega
          · have HA : Hid (ans = (k : Int)) := by
              have := HST.out
              rw [q1, q2, if_pos (by simp)] at this
              exact this
            clear HST
            go_wp2_with fail
            go_ret
            exact ⟨by rw [HF.out, HA.out]; simp, HBR.out⟩
      · obtain rfl : k = n := by omega
        have HA : Hid (ans = -1) := by
          have := hans.out
          rw [Nat.sub_self] at this
          exact this
        have hd : decide ((k : Int) < (k : Int)) = false := by rw [decide_eq_false_iff_not]; omega
        clear hlt hk
        go_wp2_with fail
        go_ret
        exact ⟨by rw [HF.out, HA.out]; rfl, HBR.out⟩

end Go.Proofs.Ytnldfjoadmehcaa
