/- A slice that came in, element by element. -/
import Derived.WalkKit
set_option linter.unusedVariables false
namespace Go.Proofs.Ytinmfkbppgjcpaa

/-- the elements of a slice that came in -/
def RowAt (w : World) (a : Option Addr) (len : Nat) (V : Nat → Value) : Prop := ∀ i, i < len → ∃ b off, a = some ⟨b, off, none⟩ ∧ b < w.heap.size ∧ w.cell? ⟨b, off + i, none⟩ = some (V i)

theorem RowAt.of {w : World} {x : Addr} {len : Nat} {V : Nat → Value} (h : ∀ i, i < len → w.cell? (x.add i) = some (V i)) : RowAt w (some x) len V := by
  intro i hi
  have h0 := h 0 (by omega)
  obtain ⟨b, off, spot⟩ := x
  have hs : spot = none := by
    cases spot with
    | none => rfl
    | some s =>
      simp only [Addr.add, if_true, World.cell?] at h0
      cases hb : w.heap[b]? with
      | none => rw [hb] at h0; cases h0
      | some o => rw [hb] at h0; cases o <;> simp at h0
  subst hs
  refine ⟨b, off, rfl, ?_, ?_⟩
  · simp only [Addr.add, if_true, World.cell?] at h0
    cases hb : w.heap[b]? with
    | none => rw [hb] at h0; cases h0
    | some o => exact (Array.getElem?_eq_some_iff.1 hb).1
  · rw [← h i hi]
    unfold Addr.add
    split
    · subst i; rfl
    · rfl
end Go.Proofs.Ytinmfkbppgjcpaa
