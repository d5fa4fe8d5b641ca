/- A slice of Asks that came in, element by element. -/
import Derived.Test.YtmdallmbmjcdfaaRow
import Derived.Test.YtmdallmbmjcdfaaChecked
import Derived.Deep.Slices
import Derived.ChangeSame
import Derived.WalkKit
import Derived.ProofKit
set_option linter.unusedVariables false
namespace Go.Proofs.Ytmdallmbmjcdfaa
open Go.ChangeShapes Go.WideShapes Go.Deep

/-- the elements of a slice of Asks -/
def AsksAt (w : World) (a : Option Addr) (len : Nat) (K : Nat → ByteArray) (T : Nat → Int) (L : Nat → Bool) : Prop :=
  ∀ i, i < len → ∃ b off, a = some ⟨b, off, none⟩ ∧ b < w.heap.size ∧ w.cell? ⟨b, off + i * 3, none⟩ = some (.string (K i)) ∧ w.cell? ⟨b, off + i * 3 + 1, none⟩ = some (.int .i64 (T i)) ∧ w.cell? ⟨b, off + i * 3 + 2, none⟩ = some (.bool (L i))

theorem AsksAt.below {w w' : World} {a : Option Addr} {len : Nat} {K : Nat → ByteArray} {T : Nat → Int} {L : Nat → Bool} (h : AsksAt w a len K T L) (hb : RowKit.Below w.heap.size w w') : AsksAt w' a len K T L := by
  intro i hi
  obtain ⟨b, off, h1, h2, h3, h4, h5⟩ := h i hi
  exact ⟨b, off, h1, Nat.lt_of_lt_of_le h2 hb.size, (hb.cell (p := ⟨b, off + i * 3, none⟩) h2).trans h3, (hb.cell (p := ⟨b, off + i * 3 + 1, none⟩) h2).trans h4, (hb.cell (p := ⟨b, off + i * 3 + 2, none⟩) h2).trans h5⟩

theorem at_cell {w : World} {x : Addr} {v : Value} (h : w.cell? x = some v) : x.spot = none ∧ x.block < w.heap.size := by
  unfold World.cell? at h
  cases hb : w.heap[x.block]? with
  | none => rw [hb] at h; cases h
  | some o =>
    rw [hb] at h
    refine ⟨?_, (Array.getElem?_eq_some_iff.1 hb).1⟩
    cases o with
    | cells c e fr =>
      simp only at h
      split at h
      · cases h
      · rename_i hs; cases hx : x.spot with
        | none => rfl
        | some s => rw [hx] at hs; simp at hs
    | _ => cases h

section
variable {H : Type} {enc : TypeId × Value → H} {w : World} {base : Nat} {held : Bool}

theorem open_asks {t : TypeId} {a : Option Addr} {len cap : Nat} {d : DataW H} {p : List MemPlace} (ht : Try.prog.underlying t = some (.slice 33))
    (h : DataW.Trod enc Try.prog w base (fun _ => true) held t (.slice a len cap) d p) :
    ∃ (K : Nat → ByteArray) (T : Nat → Int) (L : Nat → Bool), len ≤ maxLen ∧ (∀ i, i < len → (Lit.int .i64 (T i)).wf = true) ∧ AsksAt w a len K T L := by
  obtain ⟨fuel, hf⟩ := h
  rcases open_slice ht hf with ⟨hcs, _⟩ | ⟨x, l, c, m, n, D, Pl, hcs, hb, hl, hm, hmm, _, hi⟩
  · simp [Value.cells] at hcs
    obtain ⟨rfl, rfl, rfl⟩ := hcs
    exact ⟨fun _ => .empty, fun _ => 0, fun _ => false, by simp, fun i hi => by omega, fun i hi => by omega⟩
  · simp [Value.cells] at hcs
    obtain ⟨rfl, rfl, rfl⟩ := hcs
    simp only [if_true] at hmm
    have hC : Try.prog.cellsOf 33 = 3 := by kernel_rfl
    have hall : ∀ i, i < len → ∃ z : ByteArray × Int × Bool, (Lit.int .i64 z.2.1).wf = true ∧ w.cell? (x.add (i * 3)) = some (.string z.1) ∧ w.cell? (x.add (i * 3 + 1)) = some (.int .i64 z.2.1) ∧ w.cell? (x.add (i * 3 + 2)) = some (.bool z.2.2) := by
      intro i him
      obtain ⟨cs', hc, ht'⟩ := hi i (by omega)
      rw [hC] at hc
      obtain ⟨ys, n', hn', hy, hlen, hyl, hfl⟩ := DataW.trod_struct Try.underlying33 ht'
      obtain ⟨_, hcl, hat⟩ := World.cells?_some hc
      have h0 : DataW.trod enc Try.prog w base (fun _ => true) held n' 9 ((cs'.drop 0).take (Try.prog.cellsOf 9)) = ys[0]? := hfl 0 _ rfl
      have h1 : DataW.trod enc Try.prog w base (fun _ => true) held n' 3 ((cs'.drop 1).take (Try.prog.cellsOf 3)) = ys[1]? := hfl 1 _ rfl
      have h2 : DataW.trod enc Try.prog w base (fun _ => true) held n' 4 ((cs'.drop 2).take (Try.prog.cellsOf 4)) = ys[2]? := hfl 2 _ rfl
      have c9 : Try.prog.cellsOf 9 = 1 := by kernel_rfl
      have c3 : Try.prog.cellsOf 3 = 1 := by kernel_rfl
      have c4 : Try.prog.cellsOf 4 = 1 := by kernel_rfl
      rw [c9] at h0
      rw [c3] at h1
      rw [c4] at h2
      match cs', hcl with
      | [v0, v1, v2], _ =>
        have hyl' : ys.length = 3 := hyl
        match ys, hyl' with
        | [y0, y1, y2], _ =>
          obtain ⟨s, e0, _⟩ := DataW.trod_string Try.underlying9 h0
          obtain ⟨n1, e1, _, hw⟩ := DataW.trod_int Try.underlying3 h1
          obtain ⟨b2, e2, _⟩ := DataW.trod_bool Try.underlying4 h2
          simp at e0 e1 e2
          subst e0; subst e1; subst e2
          have a0 := hat 0 (by omega)
          have a1 := hat 1 (by omega)
          have a2 := hat 2 (by omega)
          rw [Go.Deep.add_add] at a0 a1 a2
          exact ⟨(s, n1, b2), hw, a0, a1, a2⟩
    obtain ⟨Z, hZ⟩ := choose_lt hall
    refine ⟨fun i => (Z i).1, fun i => (Z i).2.1, fun i => (Z i).2.2, Nat.le_trans hl hm, fun i him => (hZ i him).1, ?_⟩
    intro i him
    obtain ⟨_, z0, z1, z2⟩ := hZ i him
    obtain ⟨hs, hlt⟩ := at_cell z1
    obtain ⟨b, off, spot⟩ := x
    have hx0 := (hZ 0 (by omega)).2.1
    rw [show 0 * 3 = 0 from rfl] at hx0
    obtain ⟨hs0, hlt0⟩ := at_cell hx0
    have e : spot = none := by simpa [Addr.add] using hs0
    subst e
    have hadd : ∀ k, (⟨b, off, none⟩ : Addr).add k = ⟨b, off + k, none⟩ := by
      intro k; unfold Addr.add; split
      · subst k; rfl
      · rfl
    rw [hadd] at z0 z1 z2
    refine ⟨b, off, rfl, by simpa [Addr.add] using hlt0, z0, ?_, ?_⟩
    · rw [show off + i * 3 + 1 = off + (i * 3 + 1) by omega]; exact z1
    · rw [show off + i * 3 + 2 = off + (i * 3 + 2) by omega]; exact z2
end
end Go.Proofs.Ytmdallmbmjcdfaa
