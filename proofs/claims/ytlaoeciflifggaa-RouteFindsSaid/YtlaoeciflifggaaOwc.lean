/- law14.Own: the rows of upstreams; how the walk's states read. -/
import Derived.Test.YtlaoeciflifggaaOwb
set_option linter.unusedVariables false
namespace Go.Proofs.Ytlaoeciflifggaa.Rt
open Go.RowKit
open Go.Lib hiding intOf

structure UR where
  pv : Value
  u : Ups
def urCells (r : UR) : List Value := [.string r.u.name, r.pv, .int .i64 r.u.timeout, .int .i64 r.u.retries]
def peerV (p : Int × Int) : List Value := [.int .i64 p.1, .int .i64 p.2]

def UpsIn (w : World) (base : Nat) (r : UR) : Prop := w.ownsRow base 69 2 r.pv r.u.peers.length (r.u.peers.flatMap peerV)
theorem UpsIn.value {w : World} {base : Nat} {r : UR} (h : UpsIn w base r) : UpsV w (urCells r) r.u := by
  obtain ⟨a, c, h1, -⟩ := own_shape h
  have h3 : w.ownsRow base 69 2 r.pv r.u.peers.length (r.u.peers.flatMap peerV) := h
  rw [h1] at h3
  exact ⟨a, c, by unfold urCells; rw [h1], own_elems (f := peerV) (fun _ => rfl) h3 rfl⟩

structure UpsRows (w : World) (base : Nat) (uv : Value) (rows : List UR) : Prop where
  row : w.ownsRow base 66 4 uv rows.length (rows.flatMap urCells)
  each : ∀ r ∈ rows, UpsIn w base r
  apart : ∀ r ∈ rows, ∀ b, r.pv.ownBlock = some b → uv.ownBlock ≠ some b
theorem UpsRows.nil (w : World) (base : Nat) : UpsRows w base (.slice none 0 0) [] := ⟨World.ownsRow_nil _ _ _ _, by simp, by simp⟩
theorem UpsRows.foot {w w' : World} {base : Nat} {uv : Value} {rows : List UR} {S : Nat → Prop} (h : UpsRows w base uv rows) (hf : Foot w w' S) (hS : ∀ b, base ≤ b → ¬ S b) : UpsRows w' base uv rows :=
  ⟨own_foot h.row hf fun b hb => hS b (h.row.lt b hb).1, fun r hr => own_foot (h.each r hr) hf fun b hb => hS b (World.ownsRow.lt (h.each r hr) b hb).1, h.apart⟩
theorem UpsRows.at {w : World} {base : Nat} {rows : List UR} {a : Option Addr} {c : Nat} {U : List Ups} (h : UpsRows w base (.slice a U.length c) rows) (hL : rows.map UR.u = U) : UpssAt w a U := fun i s hs => by
  have hl : rows.length = U.length := by rw [← hL]; simp
  have hi := (List.getElem?_eq_some_iff.1 hs).1
  rw [← hL, List.getElem?_map] at hs
  obtain ⟨r, hr, rfl⟩ := Option.map_eq_some_iff.1 hs
  have hrow := h.row
  rw [hl] at hrow
  obtain ⟨b, rfl, _, hlt, hc⟩ := own_cells hrow (by omega)
  exact ⟨b, 0, urCells r, rfl, hlt, (h.each r (List.mem_of_getElem? hr)).value, fun j v hv => by rw [Nat.zero_add]; exact hc _ v (flat_get urCells 4 (fun _ => rfl) rows i j r v hr hv)⟩

theorem UpsRows.push {w w4 w5 w6 : World} {base : Nat} {uv uv' : Value} {rows : List UR} {r : UR} {ob : Nat} {o : Obj} (h : UpsRows w base uv rows) (hob : ob < base) (hbase : base ≤ w.heap.size)
    (hf : Foot w w4 (fun b => b = ob)) (hr : UpsIn w4 w.heap.size r) (hw5 : w5 = w4.alloc o)
    (hown : w6.ownsRow base 66 4 uv' (rows.length + 1) (rows.flatMap urCells ++ urCells r)) (hgrow : w5.grownBy w6 uv.ownBlock) (hat : uv'.ownBlock = uv.ownBlock ∨ uv'.ownBlock = some w5.heap.size) (u : Value) :
    UpsRows (w6.setCell ⟨ob, 4, none⟩ u) base uv' (rows ++ [r]) ∧ Foot w (w6.setCell ⟨ob, 4, none⟩ u) (fun b => b = ob ∨ uv.ownBlock = some b) := by
  have hsz4 := hf.size
  have hs5 : w5.heap.size = w4.heap.size + 1 := by rw [hw5]; simp
  have hsvlt : ∀ b, uv.ownBlock = some b → base ≤ b ∧ b < w.heap.size := fun b hb => h.row.lt b hb
  have f46 : Foot w4 (w6.setCell ⟨ob, 4, none⟩ u) (fun b => b = ob ∨ uv.ownBlock = some b) := by
    have g1 : Foot w4 w5 (fun b => b = ob ∨ uv.ownBlock = some b) := by rw [hw5]; exact (Foot.refl w4 _).alloc o
    exact (g1.grown hgrow fun k hk _ => .inr hk).setCell (.inr (.inl rfl)) u
  have f06 := (hf.mono (S' := fun b => b = ob ∨ uv.ownBlock = some b) fun k _ q => .inl q).trans f46 (fun k _ q => q)
  have hrb : ∀ b, r.pv.ownBlock = some b → w.heap.size ≤ b ∧ b < w4.heap.size := fun b hb => World.ownsRow.lt hr b hb
  refine ⟨⟨?_, ?_, ?_⟩, f06⟩
  · rw [List.length_append, List.flatMap_append]
    have : [r].flatMap urCells = urCells r := by simp
    rw [this]
    refine own_foot hown ((Foot.refl w6 (fun b => b = ob)).setCell (.inr rfl) u) fun b hb => ?_
    have := hown.lt b hb; omega
  · intro r' hr'
    rcases List.mem_append.1 hr' with hm | hm
    · refine own_foot (h.each r' hm) f06 fun b hb => ?_
      have h1 := World.ownsRow.lt (h.each r' hm) b hb
      have h2 := h.apart r' hm b hb
      rintro (rfl | q)
      · omega
      · exact h2 q
    · simp at hm; subst hm
      refine own_base (own_foot hr f46 fun b hb => ?_) hbase
      have h1 := hrb b hb
      rintro (rfl | q)
      · omega
      · have := hsvlt b q; omega
  · intro r' hr' b hb
    rcases List.mem_append.1 hr' with hm | hm
    · have h1 := World.ownsRow.lt (h.each r' hm) b hb
      have h2 := h.apart r' hm b hb
      rcases hat with q | q
      · rw [q]; exact h2
      · rw [q]; intro e; cases e; omega
    · simp at hm; subst hm
      have h1 := hrb b hb
      rcases hat with q | q
      · rw [q]; intro e; have := hsvlt b e; omega
      · rw [q]; intro e; cases e; omega

/-! ### A server that is being built: its variable's block, its rows -/
structure Build (w : World) (H sb : Nat) (nv lv : Value) (s : Srv) (j : Nat) : Prop where
  var : w.heap[sb]? = some (.cells #[nv, .bool s.dflt, lv] 46 (0, 0))
  lo : H ≤ sb
  names : w.ownsRow H 9 1 nv s.names.length (s.names.flatMap strV)
  locs : w.ownsRow H 58 12 lv j ((s.locs.take j).flatMap locVals)
  nsb : nv.ownBlock ≠ some sb
  lsb : lv.ownBlock ≠ some sb
  nl : ∀ b, nv.ownBlock = some b → lv.ownBlock ≠ some b

theorem Build.cell {w : World} {H sb : Nat} {nv lv : Value} {s : Srv} {j : Nat} (h : Build w H sb nv lv s j) : w.cell? ⟨sb, 0, none⟩ = some nv ∧ w.cell? ⟨sb, 1, none⟩ = some (.bool s.dflt) ∧ w.cell? ⟨sb, 2, none⟩ = some lv ∧ w.frozen? ⟨sb, 2, none⟩ = false ∧ sb < w.heap.size := by
  have hv := h.var
  refine ⟨by simp [World.cell?, hv], by simp [World.cell?, hv], by simp [World.cell?, hv], by simp [World.frozen?, hv], (Array.getElem?_eq_some_iff.1 hv).1⟩

/-- of an old world to a later one that leaves these blocks alone -/
theorem Build.below {w w' : World} {H sb : Nat} {nv lv : Value} {s : Srv} {j : Nat} (h : Build w H sb nv lv s j) (hb : Below w.heap.size w w') : Build w' H sb nv lv s j :=
  ⟨(hb.block sb (h.cell.2.2.2.2)).trans h.var, h.lo, own_foot h.names (Foot.ofBelow hb (fun _ => False)) (fun _ _ => id), own_foot h.locs (Foot.ofBelow hb (fun _ => False)) (fun _ _ => id), h.nsb, h.lsb, h.nl⟩

/-- one location more -/
theorem Build.push {w w5 w6 : World} {H sb : Nat} {nv lv lv' : Value} {s : Srv} {j : Nat} {l : Loc} {o : Obj} (h : Build w H sb nv lv s j) (hl : s.locs[j]? = some l) (hw5 : w5 = w.alloc o)
    (hown : w6.ownsRow H 58 12 lv' (j + 1) ((s.locs.take j).flatMap locVals ++ locVals l)) (hgrow : w5.grownBy w6 lv.ownBlock) (hat : lv'.ownBlock = lv.ownBlock ∨ lv'.ownBlock = some w5.heap.size) :
    Build (w6.setCell ⟨sb, 2, none⟩ lv') H sb nv lv' s (j + 1) ∧ Below H w (w6.setCell ⟨sb, 2, none⟩ lv') := by
  have hs5 : w5.heap.size = w.heap.size + 1 := by rw [hw5]; simp
  have hsb := h.cell.2.2.2.2
  have hll : ∀ b, lv.ownBlock = some b → H ≤ b ∧ b < w.heap.size := fun b hb => h.locs.lt b hb
  have hnn : ∀ b, nv.ownBlock = some b → H ≤ b ∧ b < w.heap.size := fun b hb => h.names.lt b hb
  have f5 : Foot w w5 (fun b => lv.ownBlock = some b) := by rw [hw5]; exact (Foot.refl w _).alloc o
  have f6 : Foot w w6 (fun b => lv.ownBlock = some b) := f5.grown hgrow fun k hk _ => hk
  have hsb6 : w6.heap[sb]? = some (.cells #[nv, .bool s.dflt, lv] 46 (0, 0)) := (f6.block sb hsb (fun q => h.lsb q)).trans h.var
  have hv7 := heap_setCell_same (off := 2) hsb6 lv'
  have g7 : Foot w6 (w6.setCell ⟨sb, 2, none⟩ lv') (fun b => b = sb) := (Foot.refl w6 (fun b => b = sb)).setCell (p := ⟨sb, 2, none⟩) (.inr rfl) lv'
  refine ⟨⟨by rw [hv7]; rfl, h.lo, ?_, ?_, h.nsb, ?_, ?_⟩, ?_⟩
  · refine own_foot (own_foot h.names f6 fun b hb => fun q => h.nl b hb q) g7 fun b hb e => ?_
    subst e; exact h.nsb hb
  · have : (s.locs.take (j + 1)).flatMap locVals = (s.locs.take j).flatMap locVals ++ locVals l := by
      rw [List.take_add_one, hl]; simp
    rw [this]
    refine own_foot hown g7 fun b hb e => ?_
    subst e
    rcases hat with q | q
    · rw [q] at hb; exact h.lsb hb
    · rw [q] at hb; cases hb; omega
  · rcases hat with q | q
    · rw [q]; exact h.lsb
    · rw [q]; intro e; cases e; omega
  · intro b hb
    rcases hat with q | q
    · rw [q]; exact h.nl b hb
    · rw [q]; intro e; cases e; have := hnn _ hb; omega
  · have fb := (f6.mono (S' := fun b => lv.ownBlock = some b ∨ b = sb) (fun _ _ q => .inl q)).trans g7 (fun _ _ q => .inr q)
    have hlo := h.lo
    refine ⟨fb.os, fb.tape, fb.output, ?_, fun k hk => ?_⟩
    · have := fb.size; omega
    · refine fb.block k (by omega) ?_
      rintro (q | rfl)
      · have := hll _ q; omega
      · omega

theorem Build.done {w : World} {H sb : Nat} {nv lv : Value} {s : Srv} (h : Build w H sb nv lv s s.locs.length) : SrvIn w H ⟨nv, lv, s⟩ :=
  ⟨h.names, by have := h.locs; rwa [List.take_length] at this⟩

/-! ### An upstream that is being built -/
structure BuildU (w : World) (H ub : Nat) (pv : Value) (u : Ups) (j : Nat) : Prop where
  var : w.heap[ub]? = some (.cells #[.string u.name, pv, .int .i64 u.timeout, .int .i64 u.retries] 66 (0, 0))
  lo : H ≤ ub
  peers : w.ownsRow H 69 2 pv j ((u.peers.take j).flatMap peerV)
  pub : pv.ownBlock ≠ some ub

theorem BuildU.cell {w : World} {H ub : Nat} {pv : Value} {u : Ups} {j : Nat} (h : BuildU w H ub pv u j) : w.cell? ⟨ub, 0, none⟩ = some (.string u.name) ∧ w.cell? ⟨ub, 1, none⟩ = some pv ∧ w.cell? ⟨ub, 2, none⟩ = some (.int .i64 u.timeout) ∧ w.cell? ⟨ub, 3, none⟩ = some (.int .i64 u.retries) ∧ w.frozen? ⟨ub, 1, none⟩ = false ∧ ub < w.heap.size := by
  have hv := h.var
  refine ⟨by simp [World.cell?, hv], by simp [World.cell?, hv], by simp [World.cell?, hv], by simp [World.cell?, hv], by simp [World.frozen?, hv], (Array.getElem?_eq_some_iff.1 hv).1⟩
theorem BuildU.below {w w' : World} {H ub : Nat} {pv : Value} {u : Ups} {j : Nat} (h : BuildU w H ub pv u j) (hb : Below w.heap.size w w') : BuildU w' H ub pv u j :=
  ⟨(hb.block ub (h.cell.2.2.2.2.2)).trans h.var, h.lo, own_foot h.peers (Foot.ofBelow hb (fun _ => False)) (fun _ _ => id), h.pub⟩
theorem BuildU.keep {w w6 : World} {H ub : Nat} {pv : Value} {u : Ups} {j : Nat} {o : Obj} (h : BuildU w H ub pv u j) (hgrow : (w.alloc o).grownBy w6 pv.ownBlock) : w6.heap[ub]? = some (.cells #[.string u.name, pv, .int .i64 u.timeout, .int .i64 u.retries] 66 (0, 0)) := by
  have f5 : Foot w (w.alloc o) (fun b => pv.ownBlock = some b) := (Foot.refl w _).alloc o
  have f6 : Foot w w6 (fun b => pv.ownBlock = some b) := f5.grown hgrow fun k hk _ => hk
  exact (f6.block ub h.cell.2.2.2.2.2 (fun q => h.pub q)).trans h.var
theorem BuildU.push {w w5 w6 : World} {H ub : Nat} {pv pv' : Value} {u : Ups} {j : Nat} {p : Int × Int} {o : Obj} (h : BuildU w H ub pv u j) (hl : u.peers[j]? = some p) (hw5 : w5 = w.alloc o)
    (hown : w6.ownsRow H 69 2 pv' (j + 1) ((u.peers.take j).flatMap peerV ++ peerV p)) (hgrow : w5.grownBy w6 pv.ownBlock) (hat : pv'.ownBlock = pv.ownBlock ∨ pv'.ownBlock = some w5.heap.size) :
    BuildU (w6.setCell ⟨ub, 1, none⟩ pv') H ub pv' u (j + 1) ∧ Below H w (w6.setCell ⟨ub, 1, none⟩ pv') := by
  have hs5 : w5.heap.size = w.heap.size + 1 := by rw [hw5]; simp
  have hub := h.cell.2.2.2.2.2
  have hll : ∀ b, pv.ownBlock = some b → H ≤ b ∧ b < w.heap.size := fun b hb => h.peers.lt b hb
  have f6 : Foot w w6 (fun b => pv.ownBlock = some b) := by
    have f5 : Foot w w5 (fun b => pv.ownBlock = some b) := by rw [hw5]; exact (Foot.refl w _).alloc o
    exact f5.grown hgrow fun k hk _ => hk
  have hub6 := h.keep (hw5 ▸ hgrow)
  have hv7 := heap_setCell_same (off := 1) hub6 pv'
  have g7 : Foot w6 (w6.setCell ⟨ub, 1, none⟩ pv') (fun b => b = ub) := (Foot.refl w6 (fun b => b = ub)).setCell (p := ⟨ub, 1, none⟩) (.inr rfl) pv'
  have hne : pv'.ownBlock ≠ some ub := by
    rcases hat with q | q
    · rw [q]; exact h.pub
    · rw [q]; intro e; cases e; omega
  refine ⟨⟨by rw [hv7]; rfl, h.lo, ?_, hne⟩, ?_⟩
  · have : (u.peers.take (j + 1)).flatMap peerV = (u.peers.take j).flatMap peerV ++ peerV p := by
      rw [List.take_add_one, hl]; simp
    rw [this]
    exact own_foot hown g7 fun b hb e => hne (by rw [hb, e])
  · have fb := (f6.mono (S' := fun b => pv.ownBlock = some b ∨ b = ub) (fun _ _ q => .inl q)).trans g7 (fun _ _ q => .inr q)
    have hlo := h.lo
    refine ⟨fb.os, fb.tape, fb.output, ?_, fun k hk => ?_⟩
    · have := fb.size; omega
    · refine fb.block k (by omega) ?_
      rintro (q | rfl)
      · have := hll _ q; omega
      · omega
theorem BuildU.done {w : World} {H ub : Nat} {pv : Value} {u : Ups} (h : BuildU w H ub pv u u.peers.length) : UpsIn w H ⟨pv, u⟩ := by
  have := h.peers; rwa [List.take_length] at this
end Go.Proofs.Ytlaoeciflifggaa.Rt
