/- Words for lists of edges that a call reads or owns; the functions ahead, turned, Is. -/
import Derived.Test.YtnldfjoadmehcaaKit
import Derived.Test.YtnldfjoadmehcaaHelp
import Derived.Deep.RegionHeld3
set_option linter.unusedVariables false
set_option linter.unusedSimpArgs false
namespace Go.Proofs.Ytnldfjoadmehcaa
open Go.RowKit

abbrev Ed := Int × Int
/-- The cells of edges. -/
def ecells : List Ed → List Value
  | [] => []
  | e :: es => .int .i64 e.1 :: .int .i64 e.2 :: ecells es
theorem ecells_length : ∀ es : List Ed, (ecells es).length = es.length * 2
  | [] => rfl
  | e :: es => by simp [ecells, ecells_length es]; omega
theorem ecells_append : ∀ es fs : List Ed, ecells (es ++ fs) = ecells es ++ ecells fs
  | [], fs => rfl
  | e :: es, fs => by simp [ecells, ecells_append es fs]
/-- Edge number k of a list. -/
def ge (es : List Ed) (k : Nat) : Ed := es.getD k (0, 0)
theorem ecells_at : ∀ (es : List Ed) (k : Nat), k < es.length → (ecells es)[k * 2]? = some (.int .i64 (ge es k).1) ∧ (ecells es)[k * 2 + 1]? = some (.int .i64 (ge es k).2)
  | [], k, h => by simp at h
  | e :: es, 0, _ => by simp [ecells, ge]
  | e :: es, k + 1, h => by
    have := ecells_at es k (by simpa using h)
    rw [show (k + 1) * 2 = k * 2 + 2 from by omega]
    simpa [ecells, ge] using this

def OwnE (w : World) (base : Nat) (v : Value) (es : List Ed) : Prop := w.ownsRow base 41 2 v es.length (ecells es)

/-- At A lie the n edges es. -/
def ReadE (w : World) (A : Option Addr) (n : Nat) (es : List Ed) : Prop :=
  es.length = n ∧ n ≤ 9223372036854775807 ∧ (0 < n → ∃ b o, A = some ⟨b, o, none⟩ ∧ ∀ j, j < n → w.cell? ⟨b, o + j * 2, none⟩ = some (.int .i64 (ge es j).1) ∧ w.cell? ⟨b, o + j * 2 + 1, none⟩ = some (.int .i64 (ge es j).2))

theorem ReadE.below {w w1 : World} {A : Option Addr} {n : Nat} {es : List Ed} (h : ReadE w A n es) (hb : Below w.heap.size w w1) : ReadE w1 A n es := by
  obtain ⟨h1, h2, h3⟩ := h
  refine ⟨h1, h2, fun hn => ?_⟩
  obtain ⟨b, o, hA, hc⟩ := h3 hn
  exact ⟨b, o, hA, fun j hj => ⟨cell_later hb (hc j hj).1, cell_later hb (hc j hj).2⟩⟩
theorem ReadE.drawn {w w1 : World} {A : Option Addr} {n : Nat} {es : List Ed} (h : ReadE w A n es) (hb : Drawn w w1) : ReadE w1 A n es := h.below (hb.below _)
theorem ReadE.grown {w w1 : World} {A : Option Addr} {n : Nat} {es : List Ed} {row : Option Nat} (h : ReadE w A n es) (hg : w.grownBy w1 row) (hr : ∀ b o, A = some ⟨b, o, none⟩ → some b ≠ row) : ReadE w1 A n es := by
  obtain ⟨h1, h2, h3⟩ := h
  refine ⟨h1, h2, fun hn => ?_⟩
  obtain ⟨b, o, hA, hc⟩ := h3 hn
  exact ⟨b, o, hA, fun j hj => ⟨hg.cell (hc j hj).1 (hr b o hA), hg.cell (hc j hj).2 (hr b o hA)⟩⟩
theorem ReadE.nil (w : World) (A : Option Addr) : ReadE w A 0 [] := ⟨rfl, by omega, fun h => absurd h (by omega)⟩

theorem OwnE.read {w : World} {base : Nat} {v : Value} {es : List Ed} (h : OwnE w base v es) : ∃ A c, v = .slice A es.length c ∧ es.length ≤ c ∧ c ≤ maxLen ∧ ReadE w A es.length es := by
  have hc := fun g hg => World.ownsRow.cells (g := g) h hg
  rcases h.2 with ⟨rfl, h0⟩ | ⟨g, cap, cur, rfl, hb, hg, hn, hm, hs, ht⟩
  · have e : es = [] := List.eq_nil_of_length_eq_zero h0
    subst e
    exact ⟨none, 0, rfl, Nat.le_refl _, by decide, ReadE.nil _ _⟩
  · have h2 : es.length ≤ 9223372036854775807 := by
      unfold maxLen at hm
      omega
    refine ⟨_, cap, rfl, hn, hm, rfl, h2, fun _ => ⟨g, 0, rfl, fun j hj => ?_⟩⟩
    obtain ⟨e1, e2⟩ := ecells_at es j hj
    have c1 := hc g rfl _ _ e1
    have c2 := hc g rfl _ _ e2
    rw [show (⟨g, 0, none⟩ : Addr).add (j * 2) = ⟨g, 0 + j * 2, none⟩ from by unfold Addr.add; split <;> simp_all] at c1
    rw [show (⟨g, 0, none⟩ : Addr).add (j * 2 + 1) = ⟨g, 0 + j * 2 + 1, none⟩ from by unfold Addr.add; simp] at c2
    exact ⟨c1, c2⟩

/-- Does an edge stand ahead of another one? -/
def ahead (a b : Ed) : Bool := decide (a.1 < b.1) || (a.1 == b.1 && decide (a.2 < b.2))

theorem ahead_any (a b : Ed) (w : World) : Calls Try.prog 96 #[.agg #[.int .i64 a.1, .int .i64 a.2], .agg #[.int .i64 b.1, .int .i64 b.2]] w fun e w' => e = .returned (.bool (ahead a b)) ∧ Below w.heap.size w w' := by
  obtain ⟨a1, a2⟩ := a
  obtain ⟨b1, b2⟩ := b
  unfold ahead
  simp only []
  have hb : Below w.heap.size w ((w.alloc (.cells #[.int .i64 a1, .int .i64 a2] 41)).alloc (.cells #[.int .i64 b1, .int .i64 b2] 41)) := ((Below.refl _ _).alloc (Nat.le_refl _) _).alloc (by simp) _
  have HB := Lib.hid hb
  clear hb
  by_cases h1 : a1 < b1
  · have h1' : decide (a1 < b1) = true := by simpa using h1
    go_enter Try.func96, Try.ntmps96
    go_wp2
    go_ret
    exact ⟨by simp [h1], HB⟩
  · have h1' : decide (a1 < b1) = false := by simpa using h1
    by_cases h2 : a1 = b1
    · subst h2
      go_enter Try.func96, Try.ntmps96
      go_wp2
      go_ret
      exact ⟨by simp, HB⟩
    · have h2' : (a1 == b1) = false := by simpa using h2
      go_enter Try.func96, Try.ntmps96
      go_wp2
      go_ret
      exact ⟨by simp [h2'], HB⟩

end Go.Proofs.Ytnldfjoadmehcaa
