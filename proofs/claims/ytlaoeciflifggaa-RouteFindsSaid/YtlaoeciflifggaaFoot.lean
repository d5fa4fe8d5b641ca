/- Worlds that differ on a footprint alone. -/
import Derived.WalkKit
import Derived.MapKept
import Derived.Maps.OwnSet
import Derived.Deep.QuietTactic
set_option linter.unusedVariables false
namespace Go.Proofs.Ytlaoeciflifggaa
open Go.RowKit

/-! ### What a call may have touched -/
structure Foot (w w' : World) (S : Nat → Prop) : Prop where
  os : w'.os = w.os
  tape : w'.tape = w.tape
  output : w'.output = w.output
  size : w.heap.size ≤ w'.heap.size
  block : ∀ k, k < w.heap.size → ¬ S k → w'.heap[k]? = w.heap[k]?

namespace Foot
variable {w w1 w2 : World} {S S' : Nat → Prop}
theorem refl (w : World) (S : Nat → Prop) : Foot w w S := ⟨rfl, rfl, rfl, Nat.le_refl _, fun _ _ _ => rfl⟩
theorem mono (h : Foot w w1 S) (hs : ∀ k, k < w.heap.size → S k → S' k) : Foot w w1 S' :=
  ⟨h.os, h.tape, h.output, h.size, fun k hk hn => h.block k hk fun q => hn (hs k hk q)⟩
theorem trans (h : Foot w w1 S) (h' : Foot w1 w2 S') (hs : ∀ k, k < w.heap.size → S' k → S k) : Foot w w2 S :=
  ⟨h'.os.trans h.os, h'.tape.trans h.tape, h'.output.trans h.output, Nat.le_trans h.size h'.size,
   fun k hk hn => (h'.block k (Nat.lt_of_lt_of_le hk h.size) fun q => hn (hs k hk q)).trans (h.block k hk hn)⟩
theorem drewN (h : Foot w w1 S) (n : Nat) : Foot w (w1.drewN n) S := ⟨h.os, h.tape, h.output, h.size, h.block⟩
theorem drew (h : Foot w w1 S) : Foot w w1.drew S := ⟨h.os, h.tape, h.output, h.size, h.block⟩
theorem alloc (h : Foot w w1 S) (o : Obj) : Foot w (w1.alloc o) S :=
  h.trans (S' := fun _ => False) ⟨rfl, rfl, rfl, by simp, fun k hk _ => Below.heap_alloc _ _ _ hk⟩ (fun _ _ q => q.elim)
theorem setCell (h : Foot w w1 S) {p : Addr} (hp : w.heap.size ≤ p.block ∨ S p.block) (u : Value) : Foot w (w1.setCell p u) S :=
  h.trans (S' := fun k => k = p.block) ⟨rfl, rfl, rfl, by simp [World.setCell], fun k hk hn => Below.heap_setCell _ _ _ _ hn⟩
    (fun k hk q => by subst q; rcases hp with hp | hp; · exact absurd hk (by omega)
                      · exact hp)
theorem ofBelow (h : Below w.heap.size w w1) (S : Nat → Prop) : Foot w w1 S := ⟨h.os, h.tape, h.output, h.size, fun k hk _ => h.block k hk⟩
theorem toBelow (h : Foot w w1 S) (hs : ∀ k, k < w.heap.size → ¬ S k) : Below w.heap.size w w1 := ⟨h.os, h.tape, h.output, h.size, fun k hk => h.block k hk (hs k hk)⟩
theorem below {B : Nat} (h : Foot w w1 S) (hB : B ≤ w.heap.size) (hs : ∀ k, k < B → ¬ S k) : Below B w w1 := ⟨h.os, h.tape, h.output, h.size, fun k hk => h.block k (by omega) (hs k hk)⟩
theorem grown (h : Foot w w1 S) {row : Option Nat} (hg : w1.grownBy w2 row) (hr : ∀ k, row = some k → k < w.heap.size → S k) : Foot w w2 S :=
  h.trans (S' := fun k => row = some k) ⟨hg.os, hg.tape, hg.output, hg.size, fun k hk hn => hg.block k hk (fun e => hn e.symm)⟩ (fun k hk q => hr k q hk)
end Foot

theorem cell_alloc {w : World} {a : Addr} {v : Value} (h : w.cell? a = some v) (o : Obj) : (w.alloc o).cell? a = some v := by
  have hlt : a.block < w.heap.size := by
    unfold World.cell? at h
    cases hb : w.heap[a.block]? with
    | none => rw [hb] at h; cases h
    | some o => exact (Array.getElem?_eq_some_iff.1 hb).1
  rw [World.cell?_of_block (w := w) (Below.heap_alloc w o a.block hlt)]
  exact h
theorem cell_allocN {w : World} {a : Addr} {v : Value} (h : w.cell? a = some v) (o : Obj) (n : Nat) : ((w.alloc o).drewN n).cell? a = some v := cell_alloc h o

theorem cell_lt {w : World} {a : Addr} {v : Value} (h : w.cell? a = some v) : a.block < w.heap.size := by
  unfold World.cell? at h
  cases hb : w.heap[a.block]? with
  | none => rw [hb] at h; cases h
  | some o => exact (Array.getElem?_eq_some_iff.1 hb).1
theorem belowN {B n : Nat} {w w' : World} (h : Below B w w') : Below B w (w'.drewN n) := ⟨h.os, h.tape, h.output, h.size, h.block⟩
theorem heap_alloc_new (w : World) (o : Obj) : (w.alloc o).heap[w.heap.size]? = some o := (MapKept.heap_alloc w o).1
theorem heap_setCell_same {w : World} {g off : Nat} {cur : Array Value} {t : TypeId} {fr : Nat × Nat} (h : w.heap[g]? = some (.cells cur t fr)) (v : Value) :
    (w.setCell ⟨g, off, none⟩ v).heap[g]? = some (.cells (cur.setIfInBounds off v) t fr) := by
  simp [World.setCell, Array.getElem?_modify, h]

/-- a row written at several places in succession -/
theorem heap_setCells {g : Nat} {t : TypeId} {fr : Nat × Nat} : ∀ (vs : List Value) (o : Nat) (w : World) (cur : Array Value), w.heap[g]? = some (.cells cur t fr) → o + vs.length ≤ cur.size →
    (w.setCells g o vs).heap[g]? = some (.cells (cur.toList.take o ++ vs ++ cur.toList.drop (o + vs.length)).toArray t fr)
  | [], o, w, cur, h, hl => by simp [World.setCells, h]
  | v :: vs, o, w, cur, h, hl => by
    rw [World.setCells]
    have h1 := heap_setCell_same (off := o) h v
    have hl' : o + 1 + vs.length ≤ (cur.setIfInBounds o v).size := by simp at *; omega
    rw [heap_setCells vs (o + 1) _ _ h1 hl']
    have ho : o < cur.toList.length := by simp at *; omega
    have e1 : (cur.setIfInBounds o v).toList = cur.toList.set o v := by simp
    rw [e1]
    have e2 : (cur.toList.set o v).take (o + 1) = cur.toList.take o ++ [v] := by
      rw [List.take_succ_eq_append_getElem (by simpa using ho), List.take_set_of_le (Nat.le_refl _)]
      simp
    have e3 : (cur.toList.set o v).drop (o + 1 + vs.length) = cur.toList.drop (o + (v :: vs).length) := by
      rw [List.drop_set]
      rw [if_pos (by omega)]
      simp; congr 1; omega
    rw [e2, e3]
    simp

theorem foot_setCells {g : Nat} : ∀ (vs : List Value) (o : Nat) (w : World), Foot w (w.setCells g o vs) (fun k => k = g)
  | [], _, w => Foot.refl _ _
  | v :: vs, o, w => by
    rw [World.setCells]
    exact ((Foot.refl w (fun k => k = g)).setCell (Or.inr rfl) v).trans (foot_setCells vs (o + 1) _) (fun _ _ h => h)

end Go.Proofs.Ytlaoeciflifggaa
