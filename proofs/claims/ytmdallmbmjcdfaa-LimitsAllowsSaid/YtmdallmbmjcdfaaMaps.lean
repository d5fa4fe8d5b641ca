/- Maps keyed by strings, as functions from keys to values; worlds that differ on a footprint alone. -/
import Derived.WalkKit
import Derived.MapKept
import Derived.Maps.OwnSet
import Derived.Deep.QuietTactic
set_option linter.unusedVariables false
namespace Go.Proofs.Ytmdallmbmjcdfaa
open Go.RowKit

/-! ### What a call may have touched -/
structure Foot (w w' : World) (S : Nat → Prop) : Prop where
  os : w'.os = w.os
  tape : w'.tape = w.tape
  output : w'.output = w.output
  size : w.heap.size ≤ w'.heap.size
  block : ∀ k, k < w.heap.size → ¬ S k → w'.heap[k]? = w.heap[k]?

namespace Foot
variable {w w1 w2 : World} {S S' : Nat → Prop}
theorem refl (w : World) (S : Nat → Prop) : Foot w w S := ⟨rfl, rfl, rfl, Nat.le_refl _, fun _ _ _ => rfl⟩
theorem mono (h : Foot w w1 S) (hs : ∀ k, k < w.heap.size → S k → S' k) : Foot w w1 S' :=
  ⟨h.os, h.tape, h.output, h.size, fun k hk hn => h.block k hk fun q => hn (hs k hk q)⟩
theorem trans (h : Foot w w1 S) (h' : Foot w1 w2 S') (hs : ∀ k, k < w.heap.size → S' k → S k) : Foot w w2 S :=
  ⟨h'.os.trans h.os, h'.tape.trans h.tape, h'.output.trans h.output, Nat.le_trans h.size h'.size,
   fun k hk hn => (h'.block k (Nat.lt_of_lt_of_le hk h.size) fun q => hn (hs k hk q)).trans (h.block k hk hn)⟩
theorem drewN (h : Foot w w1 S) (n : Nat) : Foot w (w1.drewN n) S := ⟨h.os, h.tape, h.output, h.size, h.block⟩
theorem drew (h : Foot w w1 S) : Foot w w1.drew S := ⟨h.os, h.tape, h.output, h.size, h.block⟩
theorem alloc (h : Foot w w1 S) (o : Obj) : Foot w (w1.alloc o) S :=
  h.trans (S' := fun _ => False) ⟨rfl, rfl, rfl, by simp, fun k hk _ => Below.heap_alloc _ _ _ hk⟩ (fun _ _ q => q.elim)
theorem setCell (h : Foot w w1 S) {p : Addr} (hp : w.heap.size ≤ p.block ∨ S p.block) (u : Value) : Foot w (w1.setCell p u) S :=
  h.trans (S' := fun k => k = p.block) ⟨rfl, rfl, rfl, by simp [World.setCell], fun k hk hn => Below.heap_setCell _ _ _ _ hn⟩
    (fun k hk q => by subst q; rcases hp with hp | hp; · exact absurd hk (by omega)
                      · exact hp)
theorem ofBelow (h : Below w.heap.size w w1) (S : Nat → Prop) : Foot w w1 S := ⟨h.os, h.tape, h.output, h.size, fun k hk _ => h.block k hk⟩
theorem toBelow (h : Foot w w1 S) (hs : ∀ k, k < w.heap.size → ¬ S k) : Below w.heap.size w w1 := ⟨h.os, h.tape, h.output, h.size, fun k hk => h.block k hk (hs k hk)⟩
theorem below {B : Nat} (h : Foot w w1 S) (hB : B ≤ w.heap.size) (hs : ∀ k, k < B → ¬ S k) : Below B w w1 := ⟨h.os, h.tape, h.output, h.size, fun k hk => h.block k (by omega) (hs k hk)⟩
theorem grown (h : Foot w w1 S) {row : Option Nat} (hg : w1.grownBy w2 row) (hr : ∀ k, row = some k → k < w.heap.size → S k) : Foot w w2 S :=
  h.trans (S' := fun k => row = some k) ⟨hg.os, hg.tape, hg.output, hg.size, fun k hk hn => hg.block k hk (fun e => hn e.symm)⟩ (fun k hk q => hr k q hk)
end Foot

theorem cell_alloc {w : World} {a : Addr} {v : Value} (h : w.cell? a = some v) (o : Obj) : (w.alloc o).cell? a = some v := by
  have hlt : a.block < w.heap.size := by
    unfold World.cell? at h
    cases hb : w.heap[a.block]? with
    | none => rw [hb] at h; cases h
    | some o => exact (Array.getElem?_eq_some_iff.1 hb).1
  rw [World.cell?_of_block (w := w) (Below.heap_alloc w o a.block hlt)]
  exact h
theorem cell_allocN {w : World} {a : Addr} {v : Value} (h : w.cell? a = some v) (o : Obj) (n : Nat) : ((w.alloc o).drewN n).cell? a = some v := cell_alloc h o

theorem cell_lt {w : World} {a : Addr} {v : Value} (h : w.cell? a = some v) : a.block < w.heap.size := by
  unfold World.cell? at h
  cases hb : w.heap[a.block]? with
  | none => rw [hb] at h; cases h
  | some o => exact (Array.getElem?_eq_some_iff.1 hb).1
theorem belowN {B n : Nat} {w w' : World} (h : Below B w w') : Below B w (w'.drewN n) := ⟨h.os, h.tape, h.output, h.size, h.block⟩
theorem heap_alloc_new (w : World) (o : Obj) : (w.alloc o).heap[w.heap.size]? = some o := (MapKept.heap_alloc w o).1
theorem heap_setCell_same {w : World} {g off : Nat} {cur : Array Value} {t : TypeId} {fr : Nat × Nat} (h : w.heap[g]? = some (.cells cur t fr)) (v : Value) :
    (w.setCell ⟨g, off, none⟩ v).heap[g]? = some (.cells (cur.setIfInBounds off v) t fr) := by
  simp [World.setCell, Array.getElem?_modify, h]

/-- a row written at several places in succession -/
theorem heap_setCells {g : Nat} {t : TypeId} {fr : Nat × Nat} : ∀ (vs : List Value) (o : Nat) (w : World) (cur : Array Value), w.heap[g]? = some (.cells cur t fr) → o + vs.length ≤ cur.size →
    (w.setCells g o vs).heap[g]? = some (.cells (cur.toList.take o ++ vs ++ cur.toList.drop (o + vs.length)).toArray t fr)
  | [], o, w, cur, h, hl => by simp [World.setCells, h]
  | v :: vs, o, w, cur, h, hl => by
    rw [World.setCells]
    have h1 := heap_setCell_same (off := o) h v
    have hl' : o + 1 + vs.length ≤ (cur.setIfInBounds o v).size := by simp at *; omega
    rw [heap_setCells vs (o + 1) _ _ h1 hl']
    have ho : o < cur.toList.length := by simp at *; omega
    have e1 : (cur.setIfInBounds o v).toList = cur.toList.set o v := by simp
    rw [e1]
    have e2 : (cur.toList.set o v).take (o + 1) = cur.toList.take o ++ [v] := by
      rw [List.take_succ_eq_append_getElem (by simpa using ho), List.take_set_of_le (Nat.le_refl _)]
      simp
    have e3 : (cur.toList.set o v).drop (o + 1 + vs.length) = cur.toList.drop (o + (v :: vs).length) := by
      rw [List.drop_set]
      rw [if_pos (by omega)]
      simp; congr 1; omega
    rw [e2, e3]
    simp

theorem foot_setCells {g : Nat} : ∀ (vs : List Value) (o : Nat) (w : World), Foot w (w.setCells g o vs) (fun k => k = g)
  | [], _, w => Foot.refl _ _
  | v :: vs, o, w => by
    rw [World.setCells]
    exact ((Foot.refl w (fun k => k = g)).setCell (Or.inr rfl) v).trans (foot_setCells vs (o + 1) _) (fun _ _ h => h)

/-! ### A map keyed by strings -/
def isK (k : ByteArray) (e : MapEntry) : Bool := match e.key with | .string s => s == k | _ => false
def getK (es : List MapEntry) (k : ByteArray) : Option Value := (es.find? (isK k)).map (·.val)

def StrMap (w : World) (m : Nat) (f : ByteArray → Option Value) : Prop :=
  ∃ es clock, w.heap[m]? = some (.map es clock) ∧ (∀ x ∈ es.toList, MapKept.IsKey .string x.key) ∧ es.toList.Pairwise (fun x y => x.key ≠ y.key) ∧ ∀ k, getK es.toList k = f k

theorem isKey_string {v : Value} (h : MapKept.IsKey .string v) : ∃ s, v = .string s := by
  cases v <;> simp [MapKept.IsKey] at h
  exact ⟨_, rfl⟩

theorem isK_iff {k : ByteArray} {e : MapEntry} : isK k e = true ↔ e.key = .string k := by
  unfold isK
  cases h : e.key <;> simp [MapKept.bytes_beq]

theorem isK_false {k : ByteArray} {e : MapEntry} : isK k e = false ↔ e.key ≠ .string k := by
  rw [← Bool.not_eq_true, isK_iff]

theorem getK_none {es : List MapEntry} {k : ByteArray} (h : ∀ x ∈ es, x.key ≠ .string k) : getK es k = none := by
  unfold getK
  rw [List.find?_eq_none.2 (fun x hx => by simp [isK_false.2 (h x hx)])]
  rfl

/-- the first entry of a key is the one -/
theorem getK_at {es : List MapEntry} {k : ByteArray} {j : Nat} {e : MapEntry} (hp : es.Pairwise (fun x y => x.key ≠ y.key)) (hj : es[j]? = some e) (hk : e.key = .string k) : getK es k = some e.val := by
  induction es generalizing j with
  | nil => simp at hj
  | cons x l ih =>
    rw [List.pairwise_cons] at hp
    cases j with
    | zero =>
      simp at hj; subst hj
      simp [getK, isK_iff.2 hk]
    | succ j =>
      simp at hj
      have hx : x.key ≠ .string k := by
        rw [← hk]; exact hp.1 e (List.mem_of_getElem? hj)
      have := ih hp.2 hj
      simpa [getK, List.find?_cons, isK_false.2 hx] using this

theorem getK_cons (x : MapEntry) (l : List MapEntry) (k : ByteArray) : getK (x :: l) k = if isK k x then some x.val else getK l k := by
  unfold getK
  rw [List.find?_cons]
  cases isK k x <;> simp

theorem getK_append (l r : List MapEntry) (k : ByteArray) : getK (l ++ r) k = (getK l k).or (getK r k) := by
  induction l with
  | nil => simp [getK]
  | cons x l ih =>
    rw [List.cons_append, getK_cons, getK_cons, ih]
    split <;> simp

section
variable {P : Program} {w : World} {T K E : TypeId} {m : Nat} {f : ByteArray → Option Value}

theorem StrMap.made (w : World) : StrMap (w.alloc (.map #[] 0)) w.heap.size (fun _ => none) :=
  ⟨#[], 0, (MapKept.heap_alloc w _).1, by simp, by simp, fun k => rfl⟩

theorem StrMap.keep {w' : World} (h : StrMap w m f) (he : w'.heap[m]? = w.heap[m]?) : StrMap w' m f := by
  obtain ⟨es, clock, hb, r⟩ := h
  exact ⟨es, clock, he.trans hb, r⟩

theorem StrMap.lt (h : StrMap w m f) : m < w.heap.size := by
  obtain ⟨es, clock, hb, _⟩ := h
  exact (Array.getElem?_eq_some_iff.1 hb).1

/-- the two ways of a search -/
theorem StrMap.find (h : StrMap w m f) (hK : P.underlying K = some .string) (k : ByteArray) : ∃ es clock, w.heap[m]? = some (.map es clock) ∧ (∀ x ∈ es.toList, MapKept.IsKey .string x.key) ∧ es.toList.Pairwise (fun x y => x.key ≠ y.key) ∧ (∀ k, getK es.toList k = f k) ∧
    (((Instr.findKey K (.string k) es.toList).run P w = .ok none w ∧ f k = none ∧ ∀ x ∈ es.toList, x.key ≠ .string k) ∨
     ∃ j e, (Instr.findKey K (.string k) es.toList).run P w = .ok (some (j, e.val)) w ∧ f k = some e.val ∧ es.toList[j]? = some e ∧ e.key = .string k) := by
  obtain ⟨es, clock, hb, hk, hp, hf⟩ := h
  refine ⟨es, clock, hb, hk, hp, hf, ?_⟩
  have ik : MapKept.IsKey .string (.string k) := trivial
  rcases MapKept.findNow_spec ik es.toList 0 hk with ⟨h1, h2⟩ | ⟨j, e, h1, h2, h3⟩
  · exact .inl ⟨MapKept.run_findKey hK h1, by rw [← hf, getK_none h2], h2⟩
  · refine .inr ⟨j, e, MapKept.run_findKey hK (by rw [h1]; simp), by rw [← hf, getK_at hp h2 h3], h2, h3⟩

theorem StrMap.lookup (h : StrMap w m f) (hT : P.underlying T = some (.map K E)) (hK : P.underlying K = some .string) (k : ByteArray) {z : Value} (hz : (zeroValue E).run P w = .ok z w) :
    (Instr.lookup T (.map (some m)) (.string k) true).run P w = .ok (.tuple #[(f k).getD z, .bool (f k).isSome]) w := by
  obtain ⟨es, clock, hb, hk, hp, hf, hfind⟩ := h.find hK k
  have ik : MapKept.IsKey .string (.string k) := trivial
  rcases hfind with ⟨h1, h2, _⟩ | ⟨j, e, h1, h2, _, _⟩
  · simp [Instr.lookup, run_underlying hT, MapKept.run_getObj_map hb, MapKept.run_checkKey hK ik, h1, hz, Result.andThen, h2]
  · simp [Instr.lookup, run_underlying hT, MapKept.run_getObj_map hb, MapKept.run_checkKey hK ik, h1, Result.andThen, h2]

theorem StrMap.store (h : StrMap w m f) (hT : P.underlying T = some (.map K E)) (hK : P.underlying K = some .string) (k : ByteArray) (v : Value) :
    ∃ w', (Instr.mapUpdate T (.map (some m)) (.string k) v).run P w = .ok () w' ∧ StrMap w' m (fun x => if x = k then some v else f x) ∧ Foot w w' (fun b => b = m) := by
  obtain ⟨es, clock, hb, hk, hp, hf, hfind⟩ := h.find hK k
  have ik : MapKept.IsKey .string (.string k) := trivial
  rcases hfind with ⟨h1, h2, h3⟩ | ⟨j, e, h1, h2, h3, h4⟩
  · refine ⟨{ w with heap := w.heap.setIfInBounds m (.map (es.push { key := .string k, val := v, born := clock }) (clock + 1)) }, ?_, ⟨_, _, (MapKept.heap_set hb).1, ?_, ?_, ?_⟩, ⟨rfl, rfl, rfl, by simp, fun b _ hn => (MapKept.heap_set hb).2 b hn⟩⟩
    · simp [Instr.mapUpdate, run_underlying hT, MapKept.run_getObj_map hb, MapKept.run_checkKey hK ik, h1, MapKept.run_setObj_map _ hb, Result.andThen]
    · intro x hx
      simp only [Array.toList_push, List.mem_append, List.mem_singleton] at hx
      rcases hx with hx | rfl
      · exact hk x hx
      · exact ik
    · simp only [Array.toList_push]
      refine List.pairwise_append.2 ⟨hp, by simp, ?_⟩
      intro a ha b hb'
      simp only [List.mem_singleton] at hb'
      subst hb'
      exact h3 a ha
    · intro x
      simp only [Array.toList_push]
      rw [getK_append, hf, getK_cons]
      by_cases hx : x = k
      · subst hx
        rw [h2, isK_iff.2 rfl]; simp
      · have : isK x { key := Value.string k, val := v, born := clock } = false := isK_false.2 (by simp; exact fun q => hx q.symm)
        simp [this, hx, getK]
  · have hej : es[j]? = some e := by simpa using h3
    refine ⟨{ w with heap := w.heap.setIfInBounds m (.map (es.modify j fun e => { e with key := .string k, val := v }) clock) }, ?_, ⟨_, _, (MapKept.heap_set hb).1, ?_, ?_, ?_⟩, ⟨rfl, rfl, rfl, by simp, fun b _ hn => (MapKept.heap_set hb).2 b hn⟩⟩
    · simp [Instr.mapUpdate, run_underlying hT, MapKept.run_getObj_map hb, MapKept.run_checkKey hK ik, h1, hej, h4, MapKept.run_keyThatStays ik, MapKept.run_setObj_map _ hb, Result.andThen]
    · exact MapKept.isKey_modify hk j _ (fun e' he' => by rw [hej] at he'; cases he'; exact h4.symm)
    · have := MapKept.modify_keys (es := es) j (fun e => { e with key := .string k, val := v }) (fun e' he' => by rw [hej] at he'; cases he'; exact h4.symm)
      have hp' : (es.toList.map (·.key)).Pairwise (· ≠ ·) := by rw [List.pairwise_map]; exact hp
      rw [← this, List.pairwise_map] at hp'
      exact hp'
    · intro x
      have hp2 : (es.modify j fun e => { e with key := .string k, val := v }).toList.Pairwise (fun x y => x.key ≠ y.key) := by
        have := MapKept.modify_keys (es := es) j (fun e => { e with key := .string k, val := v }) (fun e' he' => by rw [hej] at he'; cases he'; exact h4.symm)
        have hp' : (es.toList.map (·.key)).Pairwise (· ≠ ·) := by rw [List.pairwise_map]; exact hp
        rw [← this, List.pairwise_map] at hp'
        exact hp'
      by_cases hx : x = k
      · subst hx
        dsimp only; rw [if_pos rfl]
        exact getK_at (j := j) (e := { e with key := .string x, val := v }) hp2 (by simp [hej]) rfl
      · dsimp only; rw [if_neg hx, ← hf]
        -- another key's first entry lies elsewhere
        cases hq : getK es.toList x with
        | none =>
          refine getK_none ?_
          intro y hy
          rw [List.mem_iff_getElem?] at hy
          obtain ⟨i, hi⟩ := hy
          simp only [Array.getElem?_toList, Array.getElem?_modify] at hi
          by_cases hij : j = i
          · subst hij
            simp [hej] at hi
            subst hi
            simp
            exact fun q => hx q.symm
          · simp [hij] at hi
            intro hc
            have : getK es.toList x = some y.val := getK_at (j := i) hp (by simpa using hi) hc
            rw [hq] at this; cases this
        | some u =>
          unfold getK at hq
          cases hq2 : es.toList.find? (isK x) with
          | none => rw [hq2] at hq; cases hq
          | some y =>
            rw [hq2] at hq
            simp at hq
            have hy := List.find?_some hq2
            rw [isK_iff] at hy
            have hm := List.mem_of_find?_eq_some hq2
            rw [List.mem_iff_getElem?] at hm
            obtain ⟨i, hi⟩ := hm
            have hij : j ≠ i := by
              intro q; subst q
              have : some y = some e := hi.symm.trans h3
              cases this
              rw [h4] at hy; cases hy; exact hx rfl
            rw [← hq]
            exact getK_at (j := i) hp2 (by simp [hij]; simpa using hi) hy

theorem StrMap.delete (h : StrMap w m f) (hT : P.underlying T = some (.map K E)) (hK : P.underlying K = some .string) (k : ByteArray) (ty : TypeId) :
    ∃ w', (Builtin.delete_ #[T, K] ty #[.map (some m), .string k]).run P w = .ok (.tuple #[]) w' ∧ StrMap w' m (fun x => if x = k then none else f x) ∧ Foot w w' (fun b => b = m) := by
  obtain ⟨es, clock, hb, hk, hp, hf, hfind⟩ := h.find hK k
  have ik : MapKept.IsKey .string (.string k) := trivial
  rcases hfind with ⟨h1, h2, h3⟩ | ⟨j, e, h1, h2, h3, h4⟩
  · refine ⟨{ w with heap := w.heap.setIfInBounds m (.map es clock) }, ?_, ⟨_, _, (MapKept.heap_set hb).1, hk, hp, ?_⟩, ⟨rfl, rfl, rfl, by simp, fun b _ hn => (MapKept.heap_set hb).2 b hn⟩⟩
    · simp [Builtin.delete_, run_underlying hT, MapKept.run_getObj_map hb, MapKept.run_checkKey hK ik, h1, MapKept.run_setObj_map _ hb, Result.andThen]
    · intro x
      rw [hf]
      by_cases hx : x = k
      · subst hx; dsimp only; rw [if_pos rfl, h2]
      · dsimp only; rw [if_neg hx]
  · have hlt : j < es.size := by
      have := (List.getElem?_eq_some_iff.1 h3).1
      simpa using this
    have hel : (es.eraseIdxIfInBounds j).toList = es.toList.eraseIdx j := by
      unfold Array.eraseIdxIfInBounds
      rw [dif_pos hlt]
      simp
    have hsub : (es.eraseIdxIfInBounds j).toList.Sublist es.toList := by rw [hel]; exact List.eraseIdx_sublist _ _
    refine ⟨{ w with heap := w.heap.setIfInBounds m (.map (es.eraseIdxIfInBounds j) clock) }, ?_, ⟨_, _, (MapKept.heap_set hb).1, fun x hx => hk x (hsub.subset hx), hp.sublist hsub, ?_⟩, ⟨rfl, rfl, rfl, by simp, fun b _ hn => (MapKept.heap_set hb).2 b hn⟩⟩
    · simp [Builtin.delete_, run_underlying hT, MapKept.run_getObj_map hb, MapKept.run_checkKey hK ik, h1, MapKept.run_setObj_map _ hb, Result.andThen]
    · intro x
      have hsplit : es.toList = es.toList.take j ++ e :: es.toList.drop (j + 1) := by
        have hl : j < es.toList.length := by simpa using hlt
        have he : es.toList[j] = e := by
          have := List.getElem?_eq_getElem hl
          rw [h3] at this; exact (Option.some.inj this).symm
        conv => lhs; rw [← List.take_append_drop j es.toList]
        rw [List.drop_eq_getElem_cons hl, he]
      rw [hel, List.eraseIdx_eq_take_drop_succ, getK_append]
      have hfx := hf x
      rw [hsplit, getK_append, getK_cons] at hfx
      by_cases hx : x = k
      · subst hx
        dsimp only; rw [if_pos rfl]
        have hp' := hp
        rw [hsplit, List.pairwise_append, List.pairwise_cons] at hp'
        rw [getK_none (fun y hy => by rw [← h4]; exact hp'.2.2 y hy e (List.mem_cons_self ..)), getK_none (fun y hy => by rw [← h4]; exact (hp'.2.1.1 y hy).symm)]
        rfl
      · dsimp only; rw [if_neg hx, ← hfx]
        have : isK x e = false := isK_false.2 (by rw [h4]; simp; exact fun q => hx q.symm)
        rw [this]; simp
end

section
variable {P : Program} (w : World) {ops : Array Oper} {rest : List Oper} {o : Oper} {a : Act} {Q : Exit → Act → World → Prop}
theorem wpList_lookup_str (hg : o.guard = none) (mo xo : Operand) (t : TypeId) (hop : o.op = Op.lookup t mo xo true) (v : Value) (m : Nat) (k : ByteArray) (hm : a.eval mo = .map (some m)) (hx : a.eval xo = .string k)
    (hrun : (Instr.lookup t (.map (some m)) (.string k) true).run P w = .ok v w) (hK : wpList P ops Q rest (a.put o.dst v) w) : wpList P ops Q (o :: rest) a w := by
  refine wpList_plain hg fun K' hK' => ?_
  unfold Oper.wp
  simp [execOp, hop, hm, hx, hrun, Result.andThen]
  exact hK' _ _ hK

theorem wpList_delete_str (hg : o.guard = none) (mo xo : Operand) (t kt : TypeId) (hop : o.op = Op.call { callee := Callee.builtin Builtin.delete, args := #[mo, xo], argTypes := #[t, kt] }) (E m : Nat) (k : ByteArray) (f : ByteArray → Option Value)
    (hm : a.eval mo = .map (some m)) (hx : a.eval xo = .string k) (hs : StrMap w m f) (hT : P.underlying t = some (.map kt E)) (hk : P.underlying kt = some .string)
    (hK : ∀ w', StrMap w' m (fun x => if x = k then none else f x) → Foot w w' (fun b => b = m) → wpList P ops Q rest (a.put o.dst (.tuple #[])) w') : wpList P ops Q (o :: rest) a w := by
  refine wpList_plain hg fun K' hK' => ?_
  obtain ⟨w', hrun, r1, r2⟩ := hs.delete hT hk k o.type
  unfold Oper.wp
  simp [execOp, hop, resolve, invoke, builtin, hm, hx, hrun, Result.andThen]
  exact hK' _ _ (hK w' r1 r2)

theorem wpList_mapUpdate_str (hg : o.guard = none) (mo xo vo : Operand) (t : TypeId) (hop : o.op = Op.mapUpdate t mo xo vo) (kt E m : Nat) (k : ByteArray) (v : Value) (f : ByteArray → Option Value)
    (hm : a.eval mo = .map (some m)) (hx : a.eval xo = .string k) (hv : a.eval vo = v) (hs : StrMap w m f) (hT : P.underlying t = some (.map kt E)) (hk : P.underlying kt = some .string)
    (hK : ∀ w', StrMap w' m (fun x => if x = k then some v else f x) → Foot w w' (fun b => b = m) → wpList P ops Q rest (a.put o.dst undef) w') : wpList P ops Q (o :: rest) a w := by
  refine wpList_plain hg fun K' hK' => ?_
  obtain ⟨w', hrun, r1, r2⟩ := hs.store hT hk k v
  unfold Oper.wp
  simp [execOp, hop, hm, hx, hv, hrun, Result.andThen]
  exact hK' _ _ (hK w' r1 r2)
end
end Go.Proofs.Ytmdallmbmjcdfaa
