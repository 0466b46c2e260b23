/- The walks of Clone and Fork. -/
import Derived.Test.YtnldfjoadmehcaaDoorBits6
import Derived.Deep.RegionHeld3
set_option linter.unusedVariables false
set_option linter.unusedSimpArgs false
namespace Go.Proofs.YtnldfjoadmehcaaDoor
open Go.RowKit Bs

theorem infoU64 : (Tryd.prog.info? 46).map (fun i => (i.zero, i.size, i.bytes)) = some (some (.int .u64 0), 1, 8) := by kernel_rfl

theorem clone_any (h m c : Nat) (ws : List Value) (w : World) (hm : ws.length = m) (hm2 : m ≤ 2000) (h1 : ∀ u ∈ ws, u.oneCell' = true) (hw : ∀ j u, ws[j]? = some u → w.cell? ((⟨h, 0, none⟩ : Addr).add j) = some u) :
    Calls Tryd.prog 31 #[.slice (some ⟨h, 0, none⟩) m c] w fun e w' =>
      ∃ g' cap cs, e = .returned (.slice (some ⟨g', 0, none⟩) m cap) ∧ w'.heap[g']? = some (.cells cs 46 (0, 0)) ∧ cs.toList.take m = ws ∧ w.heap.size ≤ g' ∧ Below w.heap.size w w' := by
  obtain ⟨i0, hi, hz0, hz1, hz2⟩ := info_parts infoU64
  have qT : ∀ (w : World) (a : Option Addr) (n c n' c' : Nat), (binOp .eql 43 (.slice a n c) (.slice none n' c')).run Tryd.prog w = .ok (.bool a.isNone) w := fun w a n c n' c' => Lib.run_eql_slice_nil w _ _ a n c n' c' Tryd.underlying43
  have hown : (w.alloc (.cells #[] 46)).ownsRow w.heap.size 46 1 (.slice (some ⟨w.heap.size, 0, none⟩) 0 0) 0 [] := World.ownsRow_made (size := 1) w #[] 0 (Nat.le_refl _) (by decide) rfl
  have hnews : Hid (∀ j u, ws[j]? = some u → (w.alloc (.cells #[] 46)).cell? ((⟨h, 0, none⟩ : Addr).add j) = some u) := fun j u hu => by
    have hc := hw j u hu
    have hb := (Below.alloc (Below.refl w.heap.size w) (Nat.le_refl _) (.cells #[] 46)).cell (p := (⟨h, 0, none⟩ : Addr).add j) (World.block_lt_of_cell? w _ hc)
    exact hb.trans hc
  clear hw
  go_enter Tryd.func31, Tryd.ntmps31
  go_wp2_with (at_builtin; go_loud (refine wpList_append_own (w.alloc (.cells #[] 46)) rfl _ _ 43 rfl w.heap.size 46 i0 (.int .u64 0) 1 8 Tryd.underlying43 hi hz0 hz1 hz2 rfl (by decide) _ 0 [] rfl hown ⟨h, 0, none⟩ m c ws rfl (by omega) hnews.out h1 (by unfold maxLen; omega) (by omega) (by simp) ?_); intro v' w1 hown1 hg1 hnil)
  go_ret
  have hb : Below w.heap.size w w1 := (Below.alloc (Below.refl _ _) (Nat.le_refl _) _).grown hg1 (by simp) fun k hk => by
    have : w.heap.size = k := by simpa [Act.eval, Value.ownBlock] using hk
    omega
  rcases hown1.2 with ⟨e, _⟩ | ⟨g', cap, cur, hv, hg', hh, hc1, hc2, hc3, hc4⟩
  · have := hnil.1 e
    simp [Act.eval] at this
  · refine ⟨g', cap, cur, ?_, hh, ?_, hg', hb⟩
    · rw [show m = 0 + m from by omega, ← hv]
      rfl
    · simpa using hc4

theorem SetAt.cell0' {w : World} {g h room : Nat} {f : Nat → Bool} (s : SetAt w g h room f) : ∃ cap, w.cell? ⟨g, 0, none⟩ = some (.slice (some ⟨h, 0, none⟩) (nw room) cap) := by
  obtain ⟨cap, hg, hw⟩ := s.head
  exact ⟨cap, by rw [cell_blk hg]; rfl⟩

theorem SetAt.words {w : World} {g h room : Nat} {f : Nat → Bool} (s : SetAt w g h room f) : ∀ j u, ((List.range (nw room)).map fun j => Value.int .u64 (wd f j))[j]? = some u → w.cell? ((⟨h, 0, none⟩ : Addr).add j) = some u := by
  intro j u hu
  have hj : j < nw room := by
    have := (List.getElem?_eq_some_iff.1 hu).1
    simpa using this
  rw [show (⟨h, 0, none⟩ : Addr).add j = ⟨h, j, none⟩ from by unfold Addr.add; split <;> simp_all]
  rw [s.wordAt j hj]
  simp [hj] at hu
  rw [← hu]

theorem fork_any {g h room : Nat} {f : Nat → Bool} (w : World) (s : SetAt w g h room f) :
    Calls Tryd.prog 23 #[.pointer (some ⟨g, 0, none⟩)] w fun e w' =>
      ∃ g' h', e = .returned (.pointer (some ⟨g', 0, none⟩)) ∧ SetAt w' g' h' room f ∧ Below w.heap.size w w' ∧ w.heap.size ≤ g' ∧ w.heap.size ≤ h' := by
  obtain ⟨cap, hc0⟩ := s.cell0'
  have hc1 := s.cell1
  have hr := s.room
  have hn := nw_le hr
  have sd : SetAt w.drew g h room f := s.of_heap rfl
  have HW := Lib.hid sd.words
  have hws : ((List.range (nw room)).map fun j => Value.int .u64 (wd f j)).length = nw room := by simp
  have hone : ∀ u ∈ ((List.range (nw room)).map fun j => Value.int .u64 (wd f j)), u.oneCell' = true := by
    intro u hu
    obtain ⟨j, _, rfl⟩ := List.mem_map.1 hu
    rfl
  have hcl := clone_any h (nw room) cap _ w.drew hws (by omega) hone HW.out
  have HCL := Lib.hid hcl
  clear hcl HW hone hws sd
  go_enter Tryd.func23, Tryd.ntmps23
  go_wp2_with fail
  go_region_held3 (fun w' => w'.cell? ⟨g, 0, none⟩ = some (.slice (some ⟨h, 0, none⟩) (nw room) cap) ∧ w'.cell? ⟨g, 1, none⟩ = some (.int .i64 room))
    (first | go_keep | (refine ⟨?_, ?_⟩; exact (cell_later hb1 hc0); exact (cell_later hb1 hc1)))
    ((go_at_call 31; refine HCL.out.mono ?_; rintro e w1 ⟨g', cap', cs, rfl, hh, htk, hg', hb1⟩))
  go_wp2
  go_ret
  have hb2 : Below w.heap.size w w1 := ⟨hb1.os, hb1.tape, hb1.output, hb1.size, hb1.block⟩
  have hlt : g' < w1.heap.size := (Array.getElem?_eq_some_iff.1 hh).1
  have hsz : w.heap.size ≤ w1.heap.size := hb1.size
  refine ⟨w1.heap.size, g', rfl, ⟨⟨cap', ?_, fun hp => ⟨cs, ?_, fun j hj => ?_⟩⟩, s.out, s.room, by simp; omega⟩, hb2.alloc hsz _, hsz, hg'⟩
  · exact heap_alloc_new w1 _
  · rw [Below.heap_alloc _ _ _ hlt]
    exact hh
  · have := congrArg (fun l => l[j]?) htk
    simp only [List.getElem?_take, if_pos hj, Array.getElem?_toList] at this
    rw [this]
    simp [hj]

end Go.Proofs.YtnldfjoadmehcaaDoor
