/- A slice of pieces that came in. -/
import Derived.Test.YtinmfkbppgjcpaaSame
import Derived.Deep.Slices
import Derived.ChangeSame
import Derived.ProofKit
set_option linter.unusedVariables false
namespace Go.Proofs.Ytinmfkbppgjcpaa.Lz
open Go.ChangeShapes Go.WideShapes Go.Deep

theorem at_cell {w : World} {x : Addr} {v : Value} (h : w.cell? x = some v) : x.spot = none ∧ x.block < w.heap.size := by
  unfold World.cell? at h
  cases hb : w.heap[x.block]? with
  | none => rw [hb] at h; cases h
  | some o =>
    rw [hb] at h
    refine ⟨?_, (Array.getElem?_eq_some_iff.1 hb).1⟩
    cases o with
    | cells c e fr =>
      simp only at h
      split at h
      · cases h
      · rename_i hs; cases hx : x.spot with
        | none => rfl
        | some s => rw [hx] at hs; simp at hs
    | _ => cases h

section
variable {H : Type} {enc : TypeId × Value → H} {w : World} {base : Nat} {held : Bool}

theorem open_pcs {t : TypeId} {a : Option Addr} {len cap : Nat} {d : DataW H} {p : List MemPlace} (ht : Try.prog.underlying t = some (.slice 47))
    (h : DataW.Trod enc Try.prog w base (fun _ => true) held t (.slice a len cap) d p) :
    ∃ l : List (Int × Int × Int), l.length = len ∧ PcsAt w a l ∧ (len = 0 ∨ ∃ e1 e2 : List (DataW H), d = .slice e1 e2 ∧ len ≤ e1.length + e2.length) := by
  obtain ⟨fuel, hf⟩ := h
  rcases open_slice ht hf with ⟨hcs, _⟩ | ⟨x, l, c, m, n, D, Pl, hcs, hb, hl, hm, hmm, hx, hi⟩
  · simp [Value.cells] at hcs
    obtain ⟨rfl, rfl, rfl⟩ := hcs
    exact ⟨[], rfl, fun i p hp => by simp at hp, .inl rfl⟩
  · simp [Value.cells] at hcs
    obtain ⟨rfl, rfl, rfl⟩ := hcs
    simp only [if_true] at hmm
    have hC : Try.prog.cellsOf 47 = 3 := by kernel_rfl
    have hall : ∀ i, i < len → ∃ z : Int × Int × Int, w.cell? (x.add (i * 3)) = some (.int .i64 z.1) ∧ w.cell? (x.add (i * 3 + 1)) = some (.int .i64 z.2.1) ∧ w.cell? (x.add (i * 3 + 2)) = some (.int .u8 z.2.2) := by
      intro i him
      obtain ⟨cs', hc, ht'⟩ := hi i (by omega)
      rw [hC] at hc
      obtain ⟨ys, n', hn', hy, hlen, hyl, hfl⟩ := DataW.trod_struct Try.underlying47 ht'
      obtain ⟨_, hcl, hat⟩ := World.cells?_some hc
      have h0 : DataW.trod enc Try.prog w base (fun _ => true) held n' 3 ((cs'.drop 0).take (Try.prog.cellsOf 3)) = ys[0]? := hfl 0 _ rfl
      have h1 : DataW.trod enc Try.prog w base (fun _ => true) held n' 3 ((cs'.drop 1).take (Try.prog.cellsOf 3)) = ys[1]? := hfl 1 _ rfl
      have h2 : DataW.trod enc Try.prog w base (fun _ => true) held n' 5 ((cs'.drop 2).take (Try.prog.cellsOf 5)) = ys[2]? := hfl 2 _ rfl
      have c3 : Try.prog.cellsOf 3 = 1 := by kernel_rfl
      have c5 : Try.prog.cellsOf 5 = 1 := by kernel_rfl
      rw [c3] at h0
      rw [c3] at h1
      rw [c5] at h2
      match cs', hcl with
      | [v0, v1, v2], _ =>
        have hyl' : ys.length = 3 := hyl
        match ys, hyl' with
        | [y0, y1, y2], _ =>
          obtain ⟨n0, e0, _, _⟩ := DataW.trod_int Try.underlying3 h0
          obtain ⟨n1, e1, _, _⟩ := DataW.trod_int Try.underlying3 h1
          obtain ⟨n2, e2, _, _⟩ := DataW.trod_int Try.underlying5 h2
          simp at e0 e1 e2
          subst e0; subst e1; subst e2
          have a0 := hat 0 (by omega)
          have a1 := hat 1 (by omega)
          have a2 := hat 2 (by omega)
          rw [Go.Deep.add_add] at a0 a1 a2
          exact ⟨(n0, n1, n2), a0, a1, a2⟩
    obtain ⟨Z, hZ⟩ := choose_lt hall
    refine ⟨(List.range len).map Z, by simp, ?_, ?_⟩
    · intro i p hp
      have him : i < len := by have := (List.getElem?_eq_some_iff.1 hp).1; simpa using this
      obtain rfl : Z i = p := by simpa [him] using hp
      obtain ⟨z0, z1, z2⟩ := hZ i him
      obtain ⟨b, off, spot⟩ := x
      have hx0 := (hZ 0 (by omega)).1
      rw [show 0 * 3 = 0 from rfl] at hx0
      obtain ⟨hs0, hlt0⟩ := at_cell hx0
      have e : spot = none := by simpa [Addr.add] using hs0
      subst e
      have hadd : ∀ k, (⟨b, off, none⟩ : Addr).add k = ⟨b, off + k, none⟩ := by
        intro k; unfold Addr.add; split
        · subst k; rfl
        · rfl
      rw [hadd] at z0 z1 z2
      refine ⟨b, off, rfl, by simpa [Addr.add] using hlt0, z0, ?_, ?_⟩
      · rw [show off + i * 3 + 1 = off + (i * 3 + 1) by omega]; exact z1
      · rw [show off + i * 3 + 2 = off + (i * 3 + 2) by omega]; exact z2
    · right
      have hd := congrArg Prod.fst hx
      simp only at hd
      exact ⟨_, _, hd, by simp⟩
end
end Go.Proofs.Ytinmfkbppgjcpaa.Lz
