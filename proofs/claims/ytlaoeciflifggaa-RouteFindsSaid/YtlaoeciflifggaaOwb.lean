/- Rows that a call made and keeps: of servers and of upstreams. -/
import Derived.Test.YtlaoeciflifggaaOwa
import Derived.Maps.AppendAt
import Derived.Laws.AppendOwnNone
import Derived.Deep.RegionHeld3
import Derived.Deep.CutRange
import Derived.Deep.CutBlock
import Derived.StillTailTactics
import Derived.Laws.Rows
set_option linter.unusedVariables false
namespace Go.Proofs.Ytlaoeciflifggaa.Rt
open Go.RowKit
open Go.Lib hiding intOf

def zLoc : Value := .agg #[.string .empty, .int .i64 0, .string .empty, .string .empty, .int .i64 0, .int .i64 0, .string .empty, .bool false, .int .i64 0, .int .i64 0, .int .i64 0, .string .empty]
theorem info9 : (Try.prog.info? 9).map (fun i => (i.zero, i.size, i.bytes)) = some (some (.string .empty), 1, 16) := by kernel_rfl
theorem info58 : (Try.prog.info? 58).map (fun i => (i.zero, i.size, i.bytes)) = some (some zLoc, 12, 136) := by kernel_rfl
theorem info46 : (Try.prog.info? 46).map (fun i => (i.zero, i.size, i.bytes)) = some (some (.agg #[.slice none 0 0, .bool false, .slice none 0 0]), 3, 56) := by kernel_rfl
theorem info66 : (Try.prog.info? 66).map (fun i => (i.zero, i.size, i.bytes)) = some (some (.agg #[.string .empty, .slice none 0 0, .int .i64 0, .int .i64 0]), 4, 56) := by kernel_rfl
theorem info69 : (Try.prog.info? 69).map (fun i => (i.zero, i.size, i.bytes)) = some (some (.agg #[.int .i64 0, .int .i64 0]), 2, 16) := by kernel_rfl

theorem own_foot {w w' : World} {S : Nat → Prop} {base n sz : Nat} {e : TypeId} {v : Value} {xs : List Value} (h : w.ownsRow base e sz v n xs) (hf : Foot w w' S) (hS : ∀ b, v.ownBlock = some b → ¬ S b) : w'.ownsRow base e sz v n xs := by
  refine ⟨h.1, ?_⟩
  rcases h.2 with h2 | ⟨g, cap, cur, rfl, h2, h3, h4⟩
  · exact .inl h2
  · refine .inr ⟨g, cap, cur, rfl, h2, ?_, h4⟩
    rw [hf.block g (Array.getElem?_eq_some_iff.1 h3).1 (hS g rfl)]; exact h3
theorem own_base {w : World} {base base' n sz : Nat} {e : TypeId} {v : Value} {xs : List Value} (h : w.ownsRow base e sz v n xs) (hb : base' ≤ base) : w.ownsRow base' e sz v n xs := by
  refine ⟨h.1, ?_⟩
  rcases h.2 with h2 | ⟨g, cap, cur, rfl, h2, h3⟩
  · exact .inl h2
  · exact .inr ⟨g, cap, cur, rfl, by omega, h3⟩
theorem own_empty {w : World} {base g sz : Nat} {e : TypeId} (h : w.heap[g]? = some (.cells #[] e (0, 0))) (hb : base ≤ g) : w.ownsRow base e sz (.slice (some ⟨g, 0, none⟩) 0 0) 0 [] :=
  ⟨by simp, .inr ⟨g, 0, #[], rfl, hb, h, Nat.le_refl _, by unfold maxLen; omega, by simp, by simp⟩⟩
/-- how an own row looks -/
theorem own_shape {w : World} {base n sz : Nat} {e : TypeId} {v : Value} {xs : List Value} (h : w.ownsRow base e sz v n xs) : ∃ a c, v = .slice a n c ∧ n ≤ c ∧ c ≤ maxLen ∧ (a = none → n = 0 ∧ c = 0) ∧ (∀ b, v.ownBlock = some b ↔ a = some ⟨b, 0, none⟩) := by
  rcases h.2 with ⟨rfl, rfl⟩ | ⟨g, cap, cur, rfl, _, _, h4, h5, _⟩
  · exact ⟨none, 0, rfl, Nat.le_refl _, by simp, fun _ => ⟨rfl, rfl⟩, fun b => by simp [Value.ownBlock]⟩
  · refine ⟨_, cap, rfl, h4, h5, (by intro h; cases h), fun b => by simp [Value.ownBlock]⟩
theorem own_cells {w : World} {base n sz : Nat} {e : TypeId} {a : Option Addr} {c : Nat} {xs : List Value} (h : w.ownsRow base e sz (.slice a n c) n xs) (hn : 0 < n) : ∃ b, a = some ⟨b, 0, none⟩ ∧ base ≤ b ∧ b < w.heap.size ∧ ∀ (j : Nat) u, xs[j]? = some u → w.cell? ⟨b, j, none⟩ = some u := by
  rcases h.2 with ⟨h2, h3⟩ | ⟨g, cap, cur, h1, h2, h3, h4, h5, h6, h7⟩
  · omega
  · cases h1
    refine ⟨g, rfl, h2, (Array.getElem?_eq_some_iff.1 h3).1, fun j u hj => ?_⟩
    rw [← h7, List.getElem?_take] at hj
    split at hj
    · simp [World.cell?, h3]; simpa using hj
    · cases hj

/-- what lies flat in a row -/
theorem flat_get {α : Type} (f : α → List Value) (sz : Nat) (hsz : ∀ x, (f x).length = sz) : ∀ (L : List α) (i j : Nat) (x : α) (v : Value), L[i]? = some x → (f x)[j]? = some v → (L.flatMap f)[i * sz + j]? = some v
  | [], _, _, _, _, h, _ => by simp at h
  | y :: L, 0, j, x, v, h, hv => by
    simp at h; subst h
    rw [List.flatMap_cons, Nat.zero_mul, Nat.zero_add, List.getElem?_append_left (List.getElem?_eq_some_iff.1 hv).1]; exact hv
  | y :: L, i + 1, j, x, v, h, hv => by
    rw [List.flatMap_cons, List.getElem?_append_right (by rw [hsz, Nat.add_mul]; omega)]
    rw [hsz, show (i + 1) * sz + j - sz = i * sz + j by rw [Nat.add_mul]; omega]
    exact flat_get f sz hsz L i j x v (by simpa using h) hv
theorem flat_length {α : Type} (f : α → List Value) (sz : Nat) (hsz : ∀ x, (f x).length = sz) (L : List α) : (L.flatMap f).length = L.length * sz := by
  induction L with
  | nil => simp
  | cons x L ih => simp [ih, hsz, Nat.add_mul]; omega
theorem flat_one {α : Type} (f : α → List Value) (h1 : ∀ x, ∀ v ∈ f x, v.oneCell' = true) (L : List α) : ∀ v ∈ L.flatMap f, v.oneCell' = true := fun v hv => by
  obtain ⟨x, _, hx⟩ := List.mem_flatMap.1 hv
  exact h1 x v hx

theorem own_elems {α : Type} {w : World} {base n sz : Nat} {e : TypeId} {a : Option Addr} {c : Nat} {f : α → List Value} {L : List α} (hsz : ∀ x, (f x).length = sz) (h : w.ownsRow base e sz (.slice a n c) n (L.flatMap f)) (hn : n = L.length) : ElemsAt w a sz f L := fun i x hx => by
  have hi := (List.getElem?_eq_some_iff.1 hx).1
  obtain ⟨b, rfl, _, hlt, hc⟩ := own_cells h (by omega)
  exact ⟨b, 0, rfl, hlt, fun j v hv => by rw [Nat.zero_add]; exact hc _ v (flat_get f sz hsz L i j x v hx hv)⟩

theorem locVals_length (l : Loc) : (locVals l).length = 12 := rfl
theorem locVals_one (l : Loc) : ∀ v ∈ locVals l, v.oneCell' = true := by
  intro v hv
  simp only [locVals, List.mem_cons, List.not_mem_nil, or_false] at hv
  rcases hv with rfl | rfl | rfl | rfl | rfl | rfl | rfl | rfl | rfl | rfl | rfl | rfl <;> rfl

/-- a server's row: its values, and the server -/
structure SR where
  nv : Value
  lv : Value
  s : Srv

def srCells (r : SR) : List Value := [r.nv, .bool r.s.dflt, r.lv]
def strV (s : ByteArray) : List Value := [.string s]

structure SrvIn (w : World) (base : Nat) (r : SR) : Prop where
  names : w.ownsRow base 9 1 r.nv r.s.names.length (r.s.names.flatMap strV)
  locs : w.ownsRow base 58 12 r.lv r.s.locs.length (r.s.locs.flatMap locVals)

theorem SrvIn.foot {w w' : World} {base : Nat} {r : SR} {S : Nat → Prop} (h : SrvIn w base r) (hf : Foot w w' S) (hS : ∀ b, r.nv.ownBlock = some b ∨ r.lv.ownBlock = some b → ¬ S b) : SrvIn w' base r :=
  ⟨own_foot h.names hf fun b hb => hS b (.inl hb), own_foot h.locs hf fun b hb => hS b (.inr hb)⟩
theorem SrvIn.base {w : World} {base base' : Nat} {r : SR} (h : SrvIn w base r) (hb : base' ≤ base) : SrvIn w base' r := ⟨own_base h.names hb, own_base h.locs hb⟩
theorem SrvIn.lt {w : World} {base : Nat} {r : SR} (h : SrvIn w base r) : ∀ b, r.nv.ownBlock = some b ∨ r.lv.ownBlock = some b → base ≤ b ∧ b < w.heap.size := fun b hb => by
  rcases hb with hb | hb
  · exact h.names.lt b hb
  · exact h.locs.lt b hb
theorem SrvIn.value {w : World} {base : Nat} {r : SR} (h : SrvIn w base r) : SrvV w (srCells r) r.s := by
  obtain ⟨a, c, h1, _, _, hnil, -⟩ := own_shape h.names
  obtain ⟨a2, c2, h2, -⟩ := own_shape h.locs
  have h3 := h.names
  have h4 := h.locs
  rw [h1] at h3; rw [h2] at h4
  refine ⟨a, c, a2, c2, by unfold srCells; rw [h1, h2], ?_, ?_, fun e => (hnil e).2⟩
  · exact own_elems (f := strV) (fun _ => rfl) h3 rfl
  · exact own_elems locVals_length h4 rfl

/-- the rows of servers -/
structure SrvRows (w : World) (base : Nat) (sv : Value) (rows : List SR) : Prop where
  row : w.ownsRow base 46 3 sv rows.length (rows.flatMap srCells)
  each : ∀ r ∈ rows, SrvIn w base r
  apart : ∀ r ∈ rows, ∀ b, r.nv.ownBlock = some b ∨ r.lv.ownBlock = some b → sv.ownBlock ≠ some b

theorem SrvRows.nil (w : World) (base : Nat) : SrvRows w base (.slice none 0 0) [] := ⟨World.ownsRow_nil _ _ _ _, by simp, by simp⟩
theorem SrvRows.foot {w w' : World} {base : Nat} {sv : Value} {rows : List SR} {S : Nat → Prop} (h : SrvRows w base sv rows) (hf : Foot w w' S) (hS : ∀ b, base ≤ b → ¬ S b) : SrvRows w' base sv rows :=
  ⟨own_foot h.row hf fun b hb => hS b (h.row.lt b hb).1, fun r hr => (h.each r hr).foot hf fun b hb => hS b ((h.each r hr).lt b hb).1, h.apart⟩
theorem SrvRows.at {w : World} {base : Nat} {rows : List SR} {a : Option Addr} {c : Nat} {L : List Srv} (h : SrvRows w base (.slice a L.length c) rows) (hL : rows.map SR.s = L) : SrvsAt w a L := fun i s hs => by
  have hl : rows.length = L.length := by rw [← hL]; simp
  have hi := (List.getElem?_eq_some_iff.1 hs).1
  rw [← hL, List.getElem?_map] at hs
  obtain ⟨r, hr, rfl⟩ := Option.map_eq_some_iff.1 hs
  have hrow := h.row
  rw [hl] at hrow
  obtain ⟨b, rfl, _, hlt, hc⟩ := own_cells hrow (by omega)
  exact ⟨b, 0, srCells r, rfl, hlt, (h.each r (List.mem_of_getElem? hr)).value, fun j v hv => by rw [Nat.zero_add]; exact hc _ v (flat_get srCells 3 (fun _ => rfl) rows i j r v hr hv)⟩

/-- one server more -/
theorem SrvRows.push {w w4 w5 w6 : World} {base : Nat} {sv sv' : Value} {rows : List SR} {r : SR} {ob : Nat} {o : Obj} (h : SrvRows w base sv rows) (hob : ob < base) (hbase : base ≤ w.heap.size)
    (hf : Foot w w4 (fun b => b = ob)) (hr : SrvIn w4 w.heap.size r) (hw5 : w5 = w4.alloc o)
    (hown : w6.ownsRow base 46 3 sv' (rows.length + 1) (rows.flatMap srCells ++ srCells r)) (hgrow : w5.grownBy w6 sv.ownBlock) (hat : sv'.ownBlock = sv.ownBlock ∨ sv'.ownBlock = some w5.heap.size) (u : Value) :
    SrvRows (w6.setCell ⟨ob, 5, none⟩ u) base sv' (rows ++ [r]) ∧ Foot w (w6.setCell ⟨ob, 5, none⟩ u) (fun b => b = ob ∨ sv.ownBlock = some b) := by
  have hsz4 := hf.size
  have hs5 : w5.heap.size = w4.heap.size + 1 := by rw [hw5]; simp
  have hsvlt : ∀ b, sv.ownBlock = some b → base ≤ b ∧ b < w.heap.size := fun b hb => h.row.lt b hb
  have f46 : Foot w4 (w6.setCell ⟨ob, 5, none⟩ u) (fun b => b = ob ∨ sv.ownBlock = some b) := by
    have g1 : Foot w4 w5 (fun b => b = ob ∨ sv.ownBlock = some b) := by rw [hw5]; exact (Foot.refl w4 _).alloc o
    exact (g1.grown hgrow fun k hk _ => .inr hk).setCell (.inr (.inl rfl)) u
  have f06 := (hf.mono (S' := fun b => b = ob ∨ sv.ownBlock = some b) fun k _ q => .inl q).trans f46 (fun k _ q => q)
  have hrb := hr.lt
  refine ⟨⟨?_, ?_, ?_⟩, f06⟩
  · rw [List.length_append, List.flatMap_append]
    have : [r].flatMap srCells = srCells r := by simp
    rw [this]
    refine own_foot hown ((Foot.refl w6 (fun b => b = ob)).setCell (.inr rfl) u) fun b hb => ?_
    have := hown.lt b hb; omega
  · intro r' hr'
    rcases List.mem_append.1 hr' with hm | hm
    · refine (h.each r' hm).foot f06 fun b hb => ?_
      have h1 := (h.each r' hm).lt b hb
      have h2 := h.apart r' hm b hb
      rintro (rfl | q)
      · omega
      · exact h2 q
    · simp at hm; subst hm
      refine (hr.foot f46 fun b hb => ?_).base hbase
      have h1 := hrb b hb
      rintro (rfl | q)
      · omega
      · have := hsvlt b q; omega
  · intro r' hr' b hb
    rcases List.mem_append.1 hr' with hm | hm
    · have h1 := (h.each r' hm).lt b hb
      have h2 := h.apart r' hm b hb
      rcases hat with q | q
      · rw [q]; exact h2
      · rw [q]; intro e; cases e; omega
    · simp at hm; subst hm
      have h1 := hrb b hb
      rcases hat with q | q
      · rw [q]; intro e; have := hsvlt b e; omega
      · rw [q]; intro e; cases e; omega
end Go.Proofs.Ytlaoeciflifggaa.Rt
