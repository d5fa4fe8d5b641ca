/- few: two servers, three locations. -/
import Derived.Test.YtlaoeciflifggaaRf
import Derived.Test.YtlaoeciflifggaaOwb
set_option linter.unusedVariables false
namespace Go.Proofs.Ytlaoeciflifggaa.Rt
open Go.RowKit
open Go.Lib hiding intOf

/-- a location of which a prefix alone is said -/
def pre1 (p : ByteArray) : Loc := ⟨p, 0, ⟨#[]⟩, ⟨#[]⟩, 0, 0, ⟨#[]⟩, false, 0, 0, 0, ⟨#[]⟩⟩
def fewLocs : List Loc := [pre1 ⟨#[47]⟩, pre1 ⟨#[47, 97, 47]⟩, pre1 ⟨#[47, 97]⟩]
def fewL : List Srv := [{ names := [⟨#[97, 46, 111, 114, 103]⟩], dflt := false, locs := fewLocs }, { names := [⟨#[42, 46, 111, 114, 103]⟩], dflt := true, locs := fewLocs }]

theorem heapn2 (w : World) (a b c : Obj) : (((w.alloc a).alloc b).alloc c).heap[w.heap.size + 1 + 1]? = some c := by
  have := heap_alloc2_new (w.alloc a) b c; simpa using this
theorem heapn3 (w : World) (a b c d : Obj) : ((((w.alloc a).alloc b).alloc c).alloc d).heap[w.heap.size + 1 + 1 + 1]? = some d := by
  have := heapn2 (w.alloc a) b c d; simpa using this
theorem heapn4 (w : World) (a b c d e : Obj) : (((((w.alloc a).alloc b).alloc c).alloc d).alloc e).heap[w.heap.size + 1 + 1 + 1 + 1]? = some e := by
  have := heapn3 (w.alloc a) b c d e; simpa using this
theorem elems_block {α : Type} {w : World} {g sz : Nat} {cs : Array Value} {t : TypeId} {fr : Nat × Nat} {f : α → List Value} {L : List α} (hsz : ∀ x, (f x).length = sz) (h : w.heap[g]? = some (.cells cs t fr)) (hc : cs.toList = L.flatMap f) : ElemsAt w (some ⟨g, 0, none⟩) sz f L := fun i x hx =>
  ⟨g, 0, rfl, (Array.getElem?_eq_some_iff.1 h).1, fun j v hv => by
    have := flat_get f sz hsz L i j x v hx hv
    rw [← hc] at this
    rw [Nat.zero_add]
    simp only [World.cell?, h]
    simpa using this⟩

def locs36 : Array Value := (fewLocs.flatMap locVals).toArray

theorem few_at {w : World} {h1 h2 h3 h4 : Nat} {t1 t2 t4 : TypeId} (e1 : w.heap[h1]? = some (.cells locs36 t1 (0, 0))) (e2 : w.heap[h2]? = some (.cells #[.string ⟨#[97, 46, 111, 114, 103]⟩] t2 (0, 0))) (e3 : w.heap[h3]? = some (.cells #[.string ⟨#[42, 46, 111, 114, 103]⟩] t2 (0, 0)))
    (e4 : w.heap[h4]? = some (.cells #[.slice (some ⟨h2, 0, none⟩) 1 1, .bool false, .slice (some ⟨h1, 0, none⟩) 3 3, .slice (some ⟨h3, 0, none⟩) 1 1, .bool true, .slice (some ⟨h1, 0, none⟩) 3 3] t4 (0, 0))) : SrvsAt w (some ⟨h4, 0, none⟩) fewL := by
  have hl : LocsAt w (some ⟨h1, 0, none⟩) fewLocs := elems_block locVals_length e1 rfl
  intro i s hs
  have hi : i = 0 ∨ i = 1 := by
    have := (List.getElem?_eq_some_iff.1 hs).1
    have h2 : fewL.length = 2 := rfl
    omega
  rcases hi with rfl | rfl
  · cases hs
    refine ⟨h4, 0, [.slice (some ⟨h2, 0, none⟩) 1 1, .bool false, .slice (some ⟨h1, 0, none⟩) 3 3], rfl, (Array.getElem?_eq_some_iff.1 e4).1, ⟨_, 1, _, 3, rfl, elems_block (f := strV) (fun _ => rfl) e2 rfl, hl, fun e => by cases e⟩, fun j u hj => ?_⟩
    have hj3 : j = 0 ∨ j = 1 ∨ j = 2 := by have := (List.getElem?_eq_some_iff.1 hj).1; simp at this; omega
    simp only [World.cell?, e4]
    rcases hj3 with rfl | rfl | rfl <;> (cases hj; rfl)
  · cases hs
    refine ⟨h4, 0, [.slice (some ⟨h3, 0, none⟩) 1 1, .bool true, .slice (some ⟨h1, 0, none⟩) 3 3], rfl, (Array.getElem?_eq_some_iff.1 e4).1, ⟨_, 1, _, 3, rfl, elems_block (f := strV) (fun _ => rfl) e3 rfl, hl, fun e => by cases e⟩, fun j u hj => ?_⟩
    have hj3 : j = 0 ∨ j = 1 ∨ j = 2 := by have := (List.getElem?_eq_some_iff.1 hj).1; simp at this; omega
    simp only [World.cell?, e4]
    rcases hj3 with rfl | rfl | rfl <;> (cases hj; rfl)

set_option maxHeartbeats 2000000 in
set_option maxRecDepth 100000 in
theorem few_any (w : World) : Calls Try.prog 30 #[] w fun e w' => ∃ sa sc, e = .returned (.agg #[.int .i64 0, .int .i64 0, .int .i64 0, .int .i64 0, .slice none 0 0, .slice sa 2 sc]) ∧ Below w.heap.size w w' ∧ SrvsAt w' sa fewL := by
  go_enter Try.func30, Try.ntmps30
  go_wp2
  refine bodyPost_ret (v := .agg #[.int .i64 0, .int .i64 0, .int .i64 0, .int .i64 0, .slice none 0 0, .slice (some ⟨w.heap.size + 1 + 1 + 1 + 1, 0, none⟩) 2 2]) (by simp [results, Try.results30, go_sem]) rfl ⟨_, _, rfl, ?_, few_at (t1 := 56) (t2 := 9) (t4 := 50) (h1 := w.heap.size + 1) (h2 := w.heap.size + 1 + 1) (h3 := w.heap.size + 1 + 1 + 1) ?_ ?_ ?_ ?_⟩
  · exact ((((((Below.refl _ w).alloc (Nat.le_refl _) _).alloc (by simp) _).alloc (by simp; omega) _).alloc (by simp; omega) _).alloc (by simp; omega) _)
  · rw [Below.heap_alloc _ _ _ (by simp <;> omega), Below.heap_alloc _ _ _ (by simp <;> omega), Below.heap_alloc _ _ _ (by simp)]; exact heap_alloc2_new _ _ _
  · rw [Below.heap_alloc _ _ _ (by simp <;> omega), Below.heap_alloc _ _ _ (by simp)]; exact heapn2 _ _ _ _
  · rw [Below.heap_alloc _ _ _ (by simp)]; exact heapn3 _ _ _ _ _
  · exact heapn4 _ _ _ _ _ _
end Go.Proofs.Ytlaoeciflifggaa.Rt
