/- law14.Own: a configuration as the program has it. -/
import Derived.Test.YtlaoeciflifggaaOwc
import Derived.Deep.RegionLaw
import Derived.Shelf.Abstract
set_option linter.unusedVariables false
namespace Go.Proofs.Ytlaoeciflifggaa.Rt
open Go.RowKit
open Go.Lib hiding intOf

structure UpsOk (u : Ups) : Prop where
  plen : u.peers.length * 16 ≤ 140737488351232
structure SrvFit (s : Srv) : Prop where
  nlen : s.names.length * 16 ≤ 140737488351232
  llen : s.locs.length * 136 ≤ 140737488351232

def OwnPost (k0 k1 k2 k3 : Int) (U : List Ups) (L : List Srv) (w : World) (e : Ending) (w' : World) : Prop :=
  ∃ uv sv urows rows base, e = .returned (.agg #[.int .i64 k0, .int .i64 k1, .int .i64 k2, .int .i64 k3, uv, sv]) ∧ Below w.heap.size w w' ∧ w.heap.size ≤ base ∧
    UpsRows w' w.heap.size uv urows ∧ urows.map UR.u = U ∧ SrvRows w' base sv rows ∧ rows.map SR.s = L

/-- the cells of the configuration that is being made -/
theorem step_append_at {P : Program} {w : World} {ops : Array Oper} {o : Oper} {a : Act} {K : Act → World → Prop} {Q : Exit → Act → World → Prop} {E : Prop} (hgd : o.guard = none) (s x : Operand) (t : TypeId)
    (ho : o.op = .call { callee := .builtin .append, args := #[s, x], argTypes := #[t, t] })
    (base : Nat) (e : TypeId) (i : TypeInfo) (z : Value) (size bytes : Nat) (ht : P.underlying t = some (.slice e)) (hi : P.info? e = some i) (hz : i.zero = some z)
    (hsize : i.size = size) (hby : i.bytes = bytes) (hzs : z.cells.size = size) (hsz : 0 < size)
    (v : Value) (n : Nat) (xs : List Value) (hs : a.eval s = v) (hown : w.ownsRow base e size v n xs)
    (ad : Addr) (m c : Nat) (news : List Value) (hx : a.eval x = .slice (some ad) m c) (hl : news.length = m * size) (hnews : ∀ j u, news[j]? = some u → w.cell? (ad.add j) = some u) (h1 : ∀ u ∈ news, u.oneCell' = true)
    (h63 : n + m ≤ maxLen) (hbytes : (n + m) * bytes ≤ 140737488355328) (hbase : base ≤ w.heap.size)
    (hK : ∀ v' w', w'.ownsRow base e size v' (n + m) (xs ++ news) → w.grownBy w' v.ownBlock → (v'.ownBlock = v.ownBlock ∨ v'.ownBlock = some w.heap.size) → K (a.put o.dst v') w') :
    if Region.wanted o (yielded ops a.tmps) = true then Oper.wp P o a w K Q else E := by
  have hw : Region.wanted o (yielded ops a.tmps) = true := by simp [Region.wanted, hgd]
  rw [if_pos hw]
  obtain ⟨v', w', hr, h2, h3, h4, h5⟩ := run_append_own_at (P := P) w base t o.type e i z size bytes ht hi hz hsize hby hzs hsz v n xs hown ad m c news hl hnews h1 h63 hbytes hbase
  unfold Oper.wp
  simp [execOp, ho, resolve, invoke, builtin, hs, hx, hr, Result.andThen]
  exact hK v' w' h2 h3 h5

theorem bwa (w : World) (o : Obj) : Below w.heap.size w (w.alloc o).drew := ((Below.refl _ _).alloc (Nat.le_refl _) _).drew
theorem bwb (w : World) (o o' : Obj) : Below w.heap.size w ((w.alloc o).alloc o').drew := (((Below.refl _ _).alloc (Nat.le_refl _) _).alloc (by simp) _).drew
theorem bw1 {w w3 : World} {o : Obj} {r : Option Nat} (h : (w.alloc o).drew.grownBy w3 r) (hr : ∀ k, r = some k → w.heap.size ≤ k) : Below w.heap.size w w3 :=
  (bwa w o).grown h (by simp) hr
theorem bw2 {w w3 : World} {o o' : Obj} {r : Option Nat} (h : ((w.alloc o).alloc o').drew.grownBy w3 r) (hr : ∀ k, r = some k → w.heap.size ≤ k) : Below w.heap.size w w3 :=
  (bwb w o o').grown h (by simp; omega) hr
theorem cells3f {w : World} {g : Nat} {x y z : Value} {t : TypeId} (h : w.heap[g]? = some (.cells #[x, y, z] t (0, 0))) :
    w.cell? ⟨g, 0, none⟩ = some x ∧ w.cell? ⟨g, 1, none⟩ = some y ∧ w.cell? ⟨g, 2, none⟩ = some z ∧ w.frozen? ⟨g, 0, none⟩ = false ∧ w.frozen? ⟨g, 1, none⟩ = false ∧ w.frozen? ⟨g, 2, none⟩ = false ∧ g < w.heap.size :=
  ⟨by simp [World.cell?, h], by simp [World.cell?, h], by simp [World.cell?, h], by simp [World.frozen?, h], by simp [World.frozen?, h], by simp [World.frozen?, h], (Array.getElem?_eq_some_iff.1 h).1⟩
theorem far3 {w : World} {sb : Nat} {x y z : Value} {a : Addr} {v : Value} (h : a.block ≠ sb) (hc : w.cell? a = some v) : (((w.setCell ⟨sb, 0, none⟩ x).setCell ⟨sb, 1, none⟩ y).setCell ⟨sb, 2, none⟩ z).cell? a = some v := by
  have hb : (((w.setCell ⟨sb, 0, none⟩ x).setCell ⟨sb, 1, none⟩ y).setCell ⟨sb, 2, none⟩ z).heap[a.block]? = w.heap[a.block]? := by
    rw [heap_setCell_other _ _ _ _ h, heap_setCell_other _ _ _ _ h, heap_setCell_other _ _ _ _ h]
  rw [World.cell?_of_block hb]; exact hc
theorem build_new {wr w3 : World} {v1 : Value} {s : Srv} (hown : w3.ownsRow wr.heap.size 9 1 v1 s.names.length (s.names.flatMap strV)) (hb : Below wr.heap.size wr w3) :
    Build (w3.alloc (.cells #[v1, .bool s.dflt, .slice none 0 0] 46)) wr.heap.size w3.heap.size v1 (.slice none 0 0) s 0 ∧ Below wr.heap.size wr (w3.alloc (.cells #[v1, .bool s.dflt, .slice none 0 0] 46)) :=
  ⟨⟨heap_alloc_new _ _, hb.size, own_foot hown ((Foot.refl w3 (fun _ => False)).alloc _) (fun _ _ => id), World.ownsRow_nil _ _ _ _, fun e => by have := hown.lt _ e; omega, by simp [Value.ownBlock], fun _ _ => by simp [Value.ownBlock]⟩, hb.alloc hb.size _⟩
theorem build_set {wr w3 : World} {v1 x y z : Value} {s : Srv} {sb : Nat} (hown : w3.ownsRow wr.heap.size 9 1 v1 s.names.length (s.names.flatMap strV)) (hb : Below wr.heap.size wr w3) (hsb : w3.heap[sb]? = some (.cells #[x, y, z] 46 (0, 0))) (hlo : wr.heap.size ≤ sb) (hne : v1.ownBlock ≠ some sb) :
    Build (((w3.setCell ⟨sb, 0, none⟩ v1).setCell ⟨sb, 1, none⟩ (.bool s.dflt)).setCell ⟨sb, 2, none⟩ (.slice none 0 0)) wr.heap.size sb v1 (.slice none 0 0) s 0 ∧ Below wr.heap.size wr (((w3.setCell ⟨sb, 0, none⟩ v1).setCell ⟨sb, 1, none⟩ (.bool s.dflt)).setCell ⟨sb, 2, none⟩ (.slice none 0 0)) := by
  have h1 := heap_setCell_same (off := 0) hsb v1
  have h2 := heap_setCell_same (off := 1) h1 (.bool s.dflt)
  have h3 := heap_setCell_same (off := 2) h2 (.slice none 0 0)
  refine ⟨⟨by rw [h3]; rfl, hlo, ?_, World.ownsRow_nil _ _ _ _, hne, by simp [Value.ownBlock], fun _ _ => by simp [Value.ownBlock]⟩, ((hb.setCell hlo _).setCell hlo _).setCell hlo _⟩
  exact own_foot hown ((((Foot.refl w3 (fun b => b = sb)).setCell (p := ⟨sb, 0, none⟩) (.inr rfl) v1).setCell (p := ⟨sb, 1, none⟩) (.inr rfl) _).setCell (p := ⟨sb, 2, none⟩) (.inr rfl) _) (fun b hb e => hne (by rw [hb, e]))
theorem own_none {w : World} {H g : Nat} {s : Srv} (h : s.names = []) (hg : w.heap[g]? = some (.cells #[] 9 (0, 0))) (hH : H ≤ g) : w.ownsRow H 9 1 (.slice (some ⟨g, 0, none⟩) 0 0) s.names.length (s.names.flatMap strV) := by
  rw [h]; exact own_empty hg hH
theorem buildn1 {wr : World} {s : Srv} (h : s.names = []) : Build ((wr.alloc (.cells #[] 9)).alloc (.cells #[.slice (some ⟨wr.heap.size, 0, none⟩) 0 0, .bool s.dflt, .slice none 0 0] 46)).drew wr.heap.size (wr.heap.size + 1) (.slice (some ⟨wr.heap.size, 0, none⟩) 0 0) (.slice none 0 0) s 0 ∧
    Below wr.heap.size wr ((wr.alloc (.cells #[] 9)).alloc (.cells #[.slice (some ⟨wr.heap.size, 0, none⟩) 0 0, .bool s.dflt, .slice none 0 0] 46)).drew :=
  ⟨⟨heap_alloc2_new _ _ _, by omega, own_none h (heap_alloc2_old _ _ _) (Nat.le_refl _), World.ownsRow_nil _ _ _ _, by simp [Value.ownBlock], by simp [Value.ownBlock], fun _ _ => by simp [Value.ownBlock]⟩, bwb _ _ _⟩
theorem buildn2 {wr : World} {s : Srv} (h : s.names = []) : Build ((wr.alloc (.cells #[.slice (some ⟨wr.heap.size + 1, 0, none⟩) 0 0, .bool s.dflt, .slice none 0 0] 46)).alloc (.cells #[] 9)).drew wr.heap.size wr.heap.size (.slice (some ⟨wr.heap.size + 1, 0, none⟩) 0 0) (.slice none 0 0) s 0 ∧
    Below wr.heap.size wr ((wr.alloc (.cells #[.slice (some ⟨wr.heap.size + 1, 0, none⟩) 0 0, .bool s.dflt, .slice none 0 0] 46)).alloc (.cells #[] 9)).drew :=
  ⟨⟨heap_alloc2_old _ _ _, by omega, own_none h (heap_alloc2_new _ _ _) (by omega), World.ownsRow_nil _ _ _ _, by simp [Value.ownBlock], by simp [Value.ownBlock], fun _ _ => by simp [Value.ownBlock]⟩, bwb _ _ _⟩
theorem sbA {w w3 : World} {o o' : Obj} (h : ((w.alloc o).alloc o').drew.grownBy w3 (some (w.heap.size + 1))) : w3.heap[w.heap.size]? = some o := by
  rw [h.block w.heap.size (by show w.heap.size < ((w.alloc o).alloc o').heap.size; simp; omega) (by simp)]
  exact heap_alloc2_old _ _ _
theorem sbB {w w3 : World} {o o' : Obj} (h : ((w.alloc o).alloc o').drew.grownBy w3 (some w.heap.size)) : w3.heap[w.heap.size + 1]? = some o' := by
  rw [h.block (w.heap.size + 1) (by show w.heap.size + 1 < ((w.alloc o).alloc o').heap.size; simp) (by simp)]
  exact heap_alloc2_new _ _ _

theorem news_of {w W : World} {ad : Addr} {L : List ByteArray} (h : NamesAt w (some ad) L) (hb : Below w.heap.size w W) : ∀ (j : Nat) u, (L.flatMap strV)[j]? = some u → W.cell? (ad.add j) = some u := by
  intro j u hj
  have hjl : j < L.length := by have := (List.getElem?_eq_some_iff.1 hj).1; rw [flat_length strV 1 (fun _ => rfl)] at this; omega
  have h1 := flat_get strV 1 (fun _ => rfl) L j 0 L[j] (.string L[j]) (List.getElem?_eq_getElem _) rfl
  rw [Nat.mul_one, Nat.add_zero, hj] at h1
  cases h1
  obtain ⟨b, off, e, hlt, hc⟩ := NamesAt.get h (List.getElem?_eq_getElem hjl)
  cases e
  have : (⟨b, off, none⟩ : Addr).add j = ⟨b, off + j, none⟩ := by
    unfold Addr.add; split
    · subst j; rfl
    · rfl
  rw [this]
  exact (hb.cell (p := ⟨b, off + j, none⟩) hlt).trans hc
theorem strV_one (L : List ByteArray) : ∀ u ∈ L.flatMap strV, u.oneCell' = true := flat_one strV (fun x v hv => by simp [strV] at hv; subst hv; rfl) L

theorem ownLoc_lit (l : Loc) (w : World) : Calls Try.prog 19 #[.agg #[.string l.pre, .int .i64 l.kind, .string l.root, .string l.index, .int .i64 l.gzip, .int .i64 l.expires, .string l.up, .bool l.cache, .int .i64 l.rate, .int .i64 l.burst, .int .i64 l.status, .string l.to]] w
    fun e w' => e = .returned (.agg #[.string l.pre, .int .i64 l.kind, .string l.root, .string l.index, .int .i64 l.gzip, .int .i64 l.expires, .string l.up, .bool l.cache, .int .i64 l.rate, .int .i64 l.burst, .int .i64 l.status, .string l.to]) ∧ Below w.heap.size w w' := ownLoc_any l w
theorem step_call19 {w : World} {ops : Array Oper} {o : Oper} {a : Act} {K : Act → World → Prop} {Q : Exit → Act → World → Prop} {E : Prop} (hgd : o.guard = none) (x : Operand)
    (ho : o.op = .call { callee := .value (.func 19), args := #[x], argTypes := #[56] }) (v : Value) (hx : a.eval x = v) (R : Value → World → Prop) (hc : Calls Try.prog 19 #[v] w fun e w' => ∃ u, e = .returned u ∧ R u w')
    (hK : ∀ u w', R u w' → K (a.put o.dst u) w') :
    if Region.wanted o (yielded ops a.tmps) = true then Oper.wp Try.prog o a w K Q else E := by
  have hw : Region.wanted o (yielded ops a.tmps) = true := by simp [Region.wanted, hgd]
  have e19 : ∀ args w, (callFunc 19 args).run Try.prog w = .ok (.enter 19 args) w := enters_of Try.func19 (by kernel_rfl) rfl
  have hf : a.eval (.func 19) = .func (.func 19) #[] #[] := rfl
  rw [if_pos hw]
  unfold Oper.wp
  simp [execOp, ho, resolve, invoke, hx, hf, Deferred.ofValue, e19]
  show Calls Try.prog 19 #[v] w _
  refine hc.mono fun e w' h => ?_
  obtain ⟨u, rfl, hu⟩ := h
  exact hK u w' hu
theorem news_block {w : World} {g : Nat} {cs : Array Value} {t : TypeId} {fr : Nat × Nat} (h : w.heap[g]? = some (.cells cs t fr)) : ∀ (j : Nat) u, cs.toList[j]? = some u → w.cell? ((⟨g, 0, none⟩ : Addr).add j) = some u := by
  intro j u hj
  have : (⟨g, 0, none⟩ : Addr).add j = ⟨g, j, none⟩ := by
    unfold Addr.add; split
    · subst j; rfl
    · simp
  rw [this]
  simp only [World.cell?, h]
  simpa using hj
theorem Build.keep {w w6 : World} {H sb : Nat} {nv lv : Value} {s : Srv} {j : Nat} {o : Obj} (h : Build w H sb nv lv s j) (hgrow : (w.alloc o).grownBy w6 lv.ownBlock) : w6.heap[sb]? = some (.cells #[nv, .bool s.dflt, lv] 46 (0, 0)) := by
  have f5 : Foot w (w.alloc o) (fun b => lv.ownBlock = some b) := (Foot.refl w _).alloc o
  have f6 : Foot w w6 (fun b => lv.ownBlock = some b) := f5.grown hgrow fun k hk _ => hk
  exact (f6.block sb h.cell.2.2.2.2 (fun q => h.lsb q)).trans h.var

theorem grown_keep {w w6 : World} {o : Obj} {r : Option Nat} {ob : Nat} (hgrow : (w.alloc o).grownBy w6 r) (hr : r ≠ some ob) (hob : ob < w.heap.size) : w6.heap[ob]? = w.heap[ob]? :=
  (hgrow.block ob (by simp; omega) (fun e => hr e.symm)).trans (Below.heap_alloc _ _ _ hob)
theorem sr_one (r : SR) (a b : Option Addr) (n c m d : Nat) (h1 : r.nv = .slice a n c) (h2 : r.lv = .slice b m d) : ∀ u ∈ srCells r, u.oneCell' = true := by
  intro u hu
  simp only [srCells, List.mem_cons, List.not_mem_nil, or_false] at hu
  rcases hu with rfl | rfl | rfl
  · rw [h1]; rfl
  · rfl
  · rw [h2]; rfl

theorem UpsRows.base {w : World} {base base' : Nat} {uv : Value} {rows : List UR} (h : UpsRows w base uv rows) (hb : base' ≤ base) : UpsRows w base' uv rows :=
  ⟨own_base h.row hb, fun r hr => own_base (h.each r hr) hb, h.apart⟩

theorem step_append_nil {P : Program} {w : World} {ops : Array Oper} {o : Oper} {a : Act} {K : Act → World → Prop} {Q : Exit → Act → World → Prop} {E : Prop} (hgd : o.guard = none) (s x : Operand) (t : TypeId)
    (ho : o.op = .call { callee := .builtin .append, args := #[s, x], argTypes := #[t, t] })
    (base : Nat) (e : TypeId) (i : TypeInfo) (size : Nat) (ht : P.underlying t = some (.slice e)) (hi : P.info? e = some i)
    (v : Value) (n : Nat) (xs : List Value) (hs : a.eval s = v) (hown : w.ownsRow base e size v n xs) (hx : a.eval x = .slice none 0 0)
    (hK : K (a.put o.dst v) w) :
    if Region.wanted o (yielded ops a.tmps) = true then Oper.wp P o a w K Q else E := by
  have hw : Region.wanted o (yielded ops a.tmps) = true := by simp [Region.wanted, hgd]
  rw [if_pos hw]
  have hrun := run_append_owned_none (P := P) (w := w) base t o.type e i size ht hi v n xs hown
  unfold Oper.wp
  simp [execOp, ho, resolve, invoke, builtin, hs, hx, hrun, Result.andThen]
  exact hK

theorem out_cells {w : World} {ob : Nat} {k0 k1 k2 k3 : Int} {uv sv : Value} (h : w.heap[ob]? = some (.cells #[.int .i64 k0, .int .i64 k1, .int .i64 k2, .int .i64 k3, uv, sv] 29 (0, 0))) :
    w.cell? ⟨ob, 0, none⟩ = some (.int .i64 k0) ∧ w.cell? ⟨ob, 1, none⟩ = some (.int .i64 k1) ∧ w.cell? ⟨ob, 2, none⟩ = some (.int .i64 k2) ∧ w.cell? ⟨ob, 3, none⟩ = some (.int .i64 k3) ∧ w.cell? ⟨ob, 4, none⟩ = some uv ∧ w.cell? ⟨ob, 5, none⟩ = some sv ∧
    w.frozen? ⟨ob, 4, none⟩ = false ∧ w.frozen? ⟨ob, 5, none⟩ = false ∧ ob < w.heap.size :=
  ⟨by simp [World.cell?, h], by simp [World.cell?, h], by simp [World.cell?, h], by simp [World.cell?, h], by simp [World.cell?, h], by simp [World.cell?, h], by simp [World.frozen?, h], by simp [World.frozen?, h], (Array.getElem?_eq_some_iff.1 h).1⟩

set_option maxHeartbeats 8000000 in
set_option maxRecDepth 100000 in
theorem own_any (k0 k1 k2 k3 : Int) (ua sa : Option Addr) (uc sc : Nat) (U : List Ups) (L : List Srv) (w : World) (hU : UpssAt w ua U) (hL : SrvsAt w sa L) (hul : U.length * 56 ≤ 140737488351232) (hll : L.length * 56 ≤ 140737488351232)
    (huok : ∀ u ∈ U, UpsOk u) (hsok : ∀ s ∈ L, SrvFit s) :
    Calls Try.prog 7 #[.agg #[.int .i64 k0, .int .i64 k1, .int .i64 k2, .int .i64 k3, .slice ua U.length uc, .slice sa L.length sc]] w (OwnPost k0 k1 k2 k3 U L w) := by
  obtain ⟨N, hN⟩ : ∃ N, N = L.length := ⟨_, rfl⟩
  obtain ⟨M, hM⟩ : ∃ M, M = U.length := ⟨_, rfl⟩
  rw [← hN] at hll ⊢
  rw [← hM] at hul ⊢
  have HU := Lib.hid hU
  have HL := Lib.hid hL
  have HN := Lib.hid hN
  have HM := Lib.hid hM
  have HUO := Lib.hid huok
  have HSO := Lib.hid hsok
  clear hU hL hN hM huok hsok
  go_enter Try.func7, Try.ntmps7
  go_upto_block 0 with fail
  obtain ⟨box, hbox⟩ : ∃ box : Array Value, box = #[.int .i64 k0, .int .i64 k1, .int .i64 k2, .int .i64 k3, .slice ua M uc, .slice sa N sc] := ⟨_, rfl⟩
  have h0 : (((w.alloc (.cells #[.int .i64 k0, .int .i64 k1, .int .i64 k2, .int .i64 k3, .slice ua M uc, .slice sa N sc] 25)).alloc (.cells #[.int .i64 0, .int .i64 0, .int .i64 0, .int .i64 0, .slice none 0 0, .slice none 0 0] 29)).alloc (.cells #[.int .i64 k0, .int .i64 k1, .int .i64 k2, .int .i64 k3, .slice none 0 0, .slice none 0 0] 29)).heap[w.heap.size]? = some (.cells #[.int .i64 k0, .int .i64 k1, .int .i64 k2, .int .i64 k3, .slice ua M uc, .slice sa N sc] 25 (0, 0)) := by
    rw [Below.heap_alloc _ _ _ (by simp; omega), Below.heap_alloc _ _ _ (by simp)]; exact heap_alloc_new _ _
  have h1 : (((w.alloc (.cells #[.int .i64 k0, .int .i64 k1, .int .i64 k2, .int .i64 k3, .slice ua M uc, .slice sa N sc] 25)).alloc (.cells #[.int .i64 0, .int .i64 0, .int .i64 0, .int .i64 0, .slice none 0 0, .slice none 0 0] 29)).alloc (.cells #[.int .i64 k0, .int .i64 k1, .int .i64 k2, .int .i64 k3, .slice none 0 0, .slice none 0 0] 29)).heap[w.heap.size + 1]? = some (.cells #[.int .i64 0, .int .i64 0, .int .i64 0, .int .i64 0, .slice none 0 0, .slice none 0 0] 29 (0, 0)) := by
    rw [Below.heap_alloc _ _ _ (by simp)]; exact heap_alloc2_new _ _ _
  have h2 : (((w.alloc (.cells #[.int .i64 k0, .int .i64 k1, .int .i64 k2, .int .i64 k3, .slice ua M uc, .slice sa N sc] 25)).alloc (.cells #[.int .i64 0, .int .i64 0, .int .i64 0, .int .i64 0, .slice none 0 0, .slice none 0 0] 29)).alloc (.cells #[.int .i64 k0, .int .i64 k1, .int .i64 k2, .int .i64 k3, .slice none 0 0, .slice none 0 0] 29)).heap[w.heap.size + 1 + 1]? = some (.cells #[.int .i64 k0, .int .i64 k1, .int .i64 k2, .int .i64 k3, .slice none 0 0, .slice none 0 0] 29 (0, 0)) := by
    have := heap_alloc2_new (w.alloc (.cells #[.int .i64 k0, .int .i64 k1, .int .i64 k2, .int .i64 k3, .slice ua M uc, .slice sa N sc] 25)) (.cells #[.int .i64 0, .int .i64 0, .int .i64 0, .int .i64 0, .slice none 0 0, .slice none 0 0] 29) (.cells #[.int .i64 k0, .int .i64 k1, .int .i64 k2, .int .i64 k3, .slice none 0 0, .slice none 0 0] 29)
    simpa using this
  have hb : Below w.heap.size w (((w.alloc (.cells #[.int .i64 k0, .int .i64 k1, .int .i64 k2, .int .i64 k3, .slice ua M uc, .slice sa N sc] 25)).alloc (.cells #[.int .i64 0, .int .i64 0, .int .i64 0, .int .i64 0, .slice none 0 0, .slice none 0 0] 29)).alloc (.cells #[.int .i64 k0, .int .i64 k1, .int .i64 k2, .int .i64 k3, .slice none 0 0, .slice none 0 0] 29)) :=
    (((Below.refl _ w).alloc (Nat.le_refl _) _).alloc (by simp) _).alloc (by simp; omega) _
  have hs : (((w.alloc (.cells #[.int .i64 k0, .int .i64 k1, .int .i64 k2, .int .i64 k3, .slice ua M uc, .slice sa N sc] 25)).alloc (.cells #[.int .i64 0, .int .i64 0, .int .i64 0, .int .i64 0, .slice none 0 0, .slice none 0 0] 29)).alloc (.cells #[.int .i64 k0, .int .i64 k1, .int .i64 k2, .int .i64 k3, .slice none 0 0, .slice none 0 0] 29)).heap.size = w.heap.size + 3 := by simp
  generalize (((w.alloc (.cells #[.int .i64 k0, .int .i64 k1, .int .i64 k2, .int .i64 k3, .slice ua M uc, .slice sa N sc] 25)).alloc (.cells #[.int .i64 0, .int .i64 0, .int .i64 0, .int .i64 0, .slice none 0 0, .slice none 0 0] 29)).alloc (.cells #[.int .i64 k0, .int .i64 k1, .int .i64 k2, .int .i64 k3, .slice none 0 0, .slice none 0 0] 29)) = w1 at h0 h1 h2 hb hs ⊢
  have H0 := Lib.hid h0
  have H1 := Lib.hid h1
  have H2 := Lib.hid h2
  have HB := Lib.hid hb
  have HS := Lib.hid hs
  clear h0 h1 h2 hb hs hbox box
  go_cut [] from 20 to 81 (fun wc => ∃ uv urows, wc.heap[w.heap.size + 1 + 1]? = some (.cells #[.int .i64 k0, .int .i64 k1, .int .i64 k2, .int .i64 k3, uv, .slice none 0 0] 29 (0, 0)) ∧ Foot w1 wc (fun b => b = w.heap.size + 1 + 1) ∧ UpsRows wc (w.heap.size + 3) uv urows ∧ urows.map UR.u = U)
  case first =>
    have hll := hul
    clear hll
    go_wp2_with fail
    go_loopw [4] (fun i wr => ∃ (k : Nat) (uv : Value) (rows : List UR), k ≤ M ∧ i = .int .i64 k ∧ Hid (wr.heap[w.heap.size + 1 + 1]? = some (.cells #[.int .i64 k0, .int .i64 k1, .int .i64 k2, .int .i64 k3, uv, .slice none 0 0] 29 (0, 0))) ∧ Hid (Foot w1 wr (fun b => b = w.heap.size + 1 + 1)) ∧ Hid (UpsRows wr (w.heap.size + 3) uv rows) ∧ Hid (rows.map UR.u = U.take k)) (fun i _ => M - (intOf i).toNat)
    case atStart => exact ⟨0, _, [], Nat.zero_le _, rfl, H2, Lib.hid (Foot.refl _ _), Lib.hid (UpsRows.nil _ _), Lib.hid rfl⟩
    case round =>
      obtain ⟨k, uv, rows, hk, rfl, hout, hfoot, hrows, hmap⟩ := hrel
      obtain ⟨wo, rfl⟩ : ∃ wo : World, wo = wr := ⟨_, rfl⟩
      obtain ⟨xa, xc, rfl, -⟩ := own_shape hrows.out.row
      have hs1 := HS.out
      have hsz := hfoot.out.size
      have hbx : wo.cell? ⟨w.heap.size, 4, none⟩ = some (.slice ua M uc) := by
        have := (hfoot.out.block w.heap.size (by omega) (by omega)).trans H0.out
        simp [World.cell?, this]
      by_cases hlt : k < M
      · obtain ⟨u, hu⟩ : ∃ u, U[k]? = some u := ⟨U[k]'(by have := HM.out; omega), List.getElem?_eq_getElem _⟩
        have hbelr : Below w.heap.size w wo := HB.out.trans (hfoot.out.below (by omega) fun k hk q => by omega)
        obtain ⟨b, off, pa, pc, rfl, hbl, c0, c1, c2, c3, hpr⟩ := UpssAt.get (HU.out.below hbelr) hu
        have hfit := HUO.out u (List.mem_of_getElem? hu)
        have hf1 := hfit.plen
        have hkN : (k : Int) < (M : Int) := by omega
        have hk0 : (0 : Int) ≤ (k : Int) := by omega
        have hws : w.heap.size < wo.heap.size := by omega
        have HS1 := Lib.hid hs1
        clear hs1
        go_upto_region 5 with fail
        go_region_held3 (fun w' => w'.cell? ⟨w.heap.size, 4, none⟩ = some (.slice (some ⟨b, off, none⟩) M uc) ∧ w'.cell? ⟨b, off + k * 4, none⟩ = some (.string u.name) ∧ w'.cell? ⟨b, off + k * 4 + 2, none⟩ = some (.int .i64 u.timeout) ∧ w'.cell? ⟨b, off + k * 4 + 3, none⟩ = some (.int .i64 u.retries)) (go_keep) (fail)
        have HX0 : Hid (BuildU (wo.alloc (.cells #[.string u.name, .slice none 0 0, .int .i64 u.timeout, .int .i64 u.retries] 66)).drew wo.heap.size wo.heap.size (.slice none 0 0) u 0) := Lib.hid ⟨heap_alloc_new _ _, Nat.le_refl _, World.ownsRow_nil _ _ _ _, by simp [Value.ownBlock]⟩
        have HX1 : Hid (Below wo.heap.size wo (wo.alloc (.cells #[.string u.name, .slice none 0 0, .int .i64 u.timeout, .int .i64 u.retries] 66)).drew) := Lib.hid (bwa _ _)
        have HU1 := Lib.hid hu
        have HPR := Lib.hid hpr
        have HQ := Lib.hid hbx
        have HC1 := Lib.hid c1
        clear hu hpr hbelr hfit c0 c2 c3 c1 hbx
        go_wp2_with fail
        generalize (wo.alloc (.cells #[.string u.name, .slice none 0 0, .int .i64 u.timeout, .int .i64 u.retries] 66)).drew = wi at HX0 HX1 ⊢
        go_loopw [6] (fun i wl => ∃ (j : Nat) (pv : Value), j ≤ u.peers.length ∧ i = .int .i64 j ∧ Hid (BuildU wl wo.heap.size wo.heap.size pv u j) ∧ Hid (Below wo.heap.size wo wl)) (fun i _ => u.peers.length - (intOf i).toNat)
        case atStart => exact ⟨0, _, Nat.zero_le _, rfl, HX0, HX1⟩
        case round =>
          obtain ⟨j, pv, hj, rfl, hbd, hbl2⟩ := hrel
          obtain ⟨pa', pc', rfl, -⟩ := own_shape hbd.out.peers
          have q0 := (hbl2.out.cell (p := ⟨w.heap.size, 4, none⟩) hws).trans HQ.out
          have q1 := (hbl2.out.cell (p := ⟨b, off + k * 4 + 1, none⟩) hbl).trans HC1.out
          obtain ⟨v0, v1, v2, v3, vf, vl⟩ := hbd.out.cell
          by_cases hjn : j < u.peers.length
          · obtain ⟨p, hp⟩ : ∃ p, u.peers[j]? = some p := ⟨u.peers[j], List.getElem?_eq_getElem _⟩
            obtain ⟨b2, off2, rfl, hb2, e0, e1⟩ := PeersAt.get (HPR.out.below hbl2.out) hp
            obtain ⟨i0, hi, hz0, hz1, hz2⟩ := info_parts info69
            have HHP := Lib.hid hp
            clear hp
            have HB4 := Lib.hid (hbd.out.below ((Below.refl _ wr).alloc (Nat.le_refl _) (.cells #[.int .i64 p.1, .int .i64 p.2] 68)))
            go_wp2_with (at_builtin; refine wpList_append_own_at _ rfl (.tmp 67) (.tmp 73) 64 rfl wo.heap.size 69 i0 (.agg #[.int .i64 0, .int .i64 0]) 2 16 Try.underlying64 hi hz0 hz1 hz2 rfl (by decide) (.slice pa' j pc') j ((u.peers.take j).flatMap peerV) rfl (own_foot HB4.out.peers ((Foot.refl _ (fun _ => False)).alloc _) (fun _ _ => id)) ⟨wr.heap.size + 1, 0, none⟩ 1 1 (peerV p) rfl rfl (by exact news_block (heap_alloc2_new _ _ _)) (by intro v hv; simp only [peerV, List.mem_cons, List.not_mem_nil, or_false] at hv; rcases hv with rfl | rfl <;> rfl) (by unfold maxLen; omega) (by omega) (by have := hbl2.out.size; simp; omega) ?_; intro pv2 w6 hown hgrow _ hat; obtain ⟨pa2, pc2, hpv, -⟩ := own_shape hown; subst hpv; have HP := Lib.hid (BuildU.push HB4.out HHP.out rfl hown hgrow hat); have ho6 := BuildU.keep HB4.out hgrow; clear v0 v1 v2 v3 vf vl hown hgrow hat; obtain ⟨v1, vf, vl⟩ : w6.cell? ⟨wo.heap.size, 1, none⟩ = some (.slice pa' j pc') ∧ w6.frozen? ⟨wo.heap.size, 1, none⟩ = false ∧ wo.heap.size < w6.heap.size := ⟨by simp [World.cell?, ho6], by simp [World.frozen?, ho6], (Array.getElem?_eq_some_iff.1 ho6).1⟩; clear ho6)
            go_roundw
            case rel => exact ⟨j + 1, _, by omega, by go_num, Lib.hid HP.out.1, Lib.hid ((hbl2.out.trans ((Below.refl _ wr).alloc (Nat.le_refl _) _ |>.mono hbl2.out.size)).trans HP.out.2)⟩
            case measure => simp [intOf]; omega
          · obtain rfl : j = u.peers.length := by omega
            obtain ⟨i0, hi, hz0, hz1, hz2⟩ := info_parts info66
            have hob : w.heap.size + 1 + 1 < wo.heap.size := by have := HS1.out; omega
            have ho := (hbl2.out.block _ hob).trans hout.out
            obtain ⟨o0, o1, o2, o3, o4, o5, of4, of5, ol⟩ := out_cells ho
            have HO := Lib.hid ho
            have hrl : rows.length = k := by
              have := congrArg List.length hmap.out
              rw [List.length_map, List.length_take] at this
              have := HM.out; omega
            have hrk : rows.length ≤ k := by omega
            clear hrl ho
            obtain ⟨r, hr⟩ : ∃ r : UR, r = ⟨.slice pa' u.peers.length pc', u⟩ := ⟨_, rfl⟩
            have HIN : Hid (UpsIn wr wo.heap.size r) := Lib.hid (by rw [hr]; exact BuildU.done hbd.out)
            have hcs : urCells r = [.string u.name, .slice pa' u.peers.length pc', .int .i64 u.timeout, .int .i64 u.retries] := by rw [hr]; rfl
            have hrs : r.u = u := by rw [hr]
            have HCS := Lib.hid hcs
            have HRS2 := Lib.hid hrs
            have HONE : Hid (∀ v ∈ urCells r, v.oneCell' = true) := Lib.hid (by rw [hcs]; intro v hv; simp only [List.mem_cons, List.not_mem_nil, or_false] at hv; rcases hv with rfl | rfl | rfl | rfl <;> rfl)
            clear hcs hrs hr
            go_wp2_with (at_builtin; refine wpList_append_own_at _ rfl (.tmp 77) (.tmp 79) 26 rfl (w.heap.size + 3) 66 i0 (.agg #[.string .empty, .slice none 0 0, .int .i64 0, .int .i64 0]) 4 56 Try.underlying26 hi hz0 hz1 hz2 rfl (by decide) (.slice xa rows.length xc) rows.length (rows.flatMap urCells) rfl (own_foot (own_foot hrows.out.row (Foot.ofBelow hbl2.out (fun _ => False)) (fun _ _ => id)) ((Foot.refl wr (fun _ => False)).alloc _) (fun _ _ => id)) ⟨wr.heap.size, 0, none⟩ 1 1 (urCells r) rfl (by rw [HCS.out]; rfl) (by rw [HCS.out]; exact news_block (heap_alloc_new _ _)) HONE.out (by unfold maxLen; omega) (by omega) (by have := hbl2.out.size; have := HS1.out; simp; omega) ?_; intro sv2 w6 hown hgrow _ hat; have HP := Lib.hid (UpsRows.push hrows.out (ob := w.heap.size + 1 + 1) (by omega) (by have := HS1.out; omega) (Foot.ofBelow hbl2.out _) HIN.out rfl hown hgrow hat sv2); have ho6 := (grown_keep hgrow (by intro e; have := hrows.out.row.lt _ e; omega) ol).trans HO.out; obtain ⟨xa2, xc2, hsv, -⟩ := own_shape hown; subst hsv; clear o0 o1 o2 o3 o4 o5 of4 of5 hown hgrow hat; obtain ⟨o0, o1, o2, o3, o4, o5, of4, of5, ol6⟩ := out_cells ho6; have HO6 := Lib.hid ho6; clear ho6)
            go_roundw
            case rel =>
              refine ⟨k + 1, _, rows ++ [r], by omega, by go_num, Lib.hid ?_, Lib.hid (hfoot.out.trans HP.out.2 (fun b hb q => ?_)), Lib.hid HP.out.1, Lib.hid ?_⟩
              · rw [heap_setCell_same (off := 4) HO6.out]; rfl
              · rcases q with q | q
                · exact q
                · have := hrows.out.row.lt b q; have := HS.out; omega
              · rw [List.map_append, hmap.out, List.take_add_one, HU1.out]
                simp [HRS2.out]
            case measure => simp [intOf]; omega
      · obtain rfl : M = k := by omega
        go_wp2_with fail
        go_meet
        exact ⟨_, rows, hout.out, hfoot.out, hrows.out, by rw [hmap.out, HM.out, List.take_length]⟩
  case rest =>
    obtain ⟨uv, urows, hout, hfoot, hups, hmap⟩ := hcut
    rename World => w2
    have hbel2 : Below w.heap.size w w2 := HB.out.trans (hfoot.below (by have := HS.out; omega) fun k hk q => by omega)
    have hbox := (hfoot.block w.heap.size (by have := HS.out; omega) (by omega)).trans H0.out
    have hres := (hfoot.block (w.heap.size + 1) (by have := HS.out; omega) (by omega)).trans H1.out
    have hsz2 : w.heap.size + 3 ≤ w2.heap.size := by have := HS.out; have := hfoot.size; omega
    have HL2 := Lib.hid (HL.out.below hbel2)
    have HB2 := Lib.hid hbel2
    have HBX := Lib.hid hbox
    have HRS := Lib.hid hres
    have HUP := Lib.hid (And.intro hups hmap)
    have HOUT := Lib.hid hout
    clear hbel2 hbox hres hfoot hups hmap hout
    go_wp2_with fail
    go_loopw [8] (fun i wr => ∃ (k : Nat) (sv : Value) (rows : List SR), k ≤ N ∧ i = .int .i64 k ∧ Hid (wr.heap[w.heap.size + 1 + 1]? = some (.cells #[.int .i64 k0, .int .i64 k1, .int .i64 k2, .int .i64 k3, uv, sv] 29 (0, 0))) ∧ Hid (Foot w2 wr (fun b => b = w.heap.size + 1 + 1)) ∧ Hid (SrvRows wr w2.heap.size sv rows) ∧ Hid (rows.map SR.s = L.take k)) (fun i _ => N - (intOf i).toNat)
    case atStart => exact ⟨0, _, [], Nat.zero_le _, rfl, HOUT, Lib.hid (Foot.refl _ _), Lib.hid (SrvRows.nil _ _), Lib.hid rfl⟩
    case round =>
      obtain ⟨k, sv, rows, hk, rfl, hout, hfoot, hrows, hmap⟩ := hrel
      obtain ⟨wo, rfl⟩ : ∃ wo : World, wo = wr := ⟨_, rfl⟩
      obtain ⟨xa, xc, rfl, -⟩ := own_shape hrows.out.row
      have hbx : wo.cell? ⟨w.heap.size, 5, none⟩ = some (.slice sa N sc) := by
        have := (hfoot.out.block w.heap.size (by omega) (by omega)).trans HBX.out
        simp [World.cell?, this]
      have hbel : Below w2.heap.size w2 wo ∨ True := .inr trivial
      by_cases hlt : k < N
      · obtain ⟨s, hs⟩ : ∃ s, L[k]? = some s := ⟨L[k]'(by have := HN.out; omega), List.getElem?_eq_getElem _⟩
        clear hbel
        have hbelr : Below w.heap.size w wo := HB2.out.trans (hfoot.out.below (by omega) fun k hk q => by omega)
        obtain ⟨b, off, na, nc, la, lc, rfl, hbl, c0, c1, c2, hnm, hlc, hnil⟩ := SrvsAt.get2 (HL.out.below hbelr) hs
        have hfit := HSO.out s (List.mem_of_getElem? hs)
        have hf1 := hfit.nlen
        have hkN : (k : Int) < (N : Int) := by omega
        have hk0 : (0 : Int) ≤ (k : Int) := by omega
        have hws : w.heap.size < wo.heap.size := by have := hfoot.out.size; omega
        go_upto_region 15 with fail
        go_cut [9] from 89 to 103 (fun u wc => ∃ sb nv, u = .pointer (some ⟨sb, 0, none⟩) ∧ Build wc wo.heap.size sb nv (.slice none 0 0) s 0 ∧ Below wo.heap.size wo wc)
        case first =>
          cases na with
          | none =>
            obtain ⟨i0, hi, hz0, hz1, hz2⟩ := info_parts info9
            have hn0 : s.names.length = 0 := by
              rcases Nat.eq_zero_or_pos s.names.length with h | h
              · exact h
              · obtain ⟨_, _, e, _⟩ := hnm 0 s.names[0] (List.getElem?_eq_getElem h)
                cases e
            rw [hnil rfl, hn0] at c0
            have hnn : s.names = [] := List.length_eq_zero_iff.1 hn0
            have HNN := Lib.hid hnn
            clear hnn hn0
            go_region_held3 (fun w' => w'.cell? ⟨w.heap.size, 5, none⟩ = some (.slice (some ⟨b, off, none⟩) N sc) ∧ w'.cell? ⟨b, off + k * 3, none⟩ = some (.slice none 0 0) ∧ w'.cell? ⟨b, off + k * 3 + 1, none⟩ = some (.bool s.dflt)) (first | go_keep | (refine ⟨far3 (by simp; omega) (by assumption), far3 (by simp; omega) (by assumption), far3 (by simp; omega) (by assumption)⟩))
              ((refine step_append_nil (by rfl) (.tmp 89) (.tmp 95) 43 (by rfl) wo.heap.size 9 i0 1 Try.underlying43 hi _ 0 [] (by rfl) (own_empty (by first | exact heap_alloc_new _ _ | exact heap_alloc2_old _ _ _ | exact heap_alloc2_new _ _ _) (by simp)) (by rfl) ?_))
            all_goals (go_wp2_with fail; go_meet)
            · exact ⟨_, _, rfl, buildn1 HNN.out⟩
            · exact ⟨_, _, rfl, buildn1 HNN.out⟩
            · exact ⟨_, _, rfl, buildn2 HNN.out⟩
          | some ad =>
            obtain ⟨i0, hi, hz0, hz1, hz2⟩ := info_parts info9
            go_region_held3 (fun w' => w'.cell? ⟨w.heap.size, 5, none⟩ = some (.slice (some ⟨b, off, none⟩) N sc) ∧ w'.cell? ⟨b, off + k * 3, none⟩ = some (.slice (some ad) s.names.length nc) ∧ w'.cell? ⟨b, off + k * 3 + 1, none⟩ = some (.bool s.dflt)) (first | go_keep | (refine ⟨far3 (by simp; omega) (by assumption), far3 (by simp; omega) (by assumption), far3 (by simp; omega) (by assumption)⟩))
              ((refine step_append_at (by rfl) (.tmp 89) (.tmp 95) 43 (by rfl) wo.heap.size 9 i0 (.string .empty) 1 16 Try.underlying43 hi hz0 hz1 hz2 (by rfl) (by decide) _ 0 [] (by rfl) (own_empty (by first | exact heap_alloc_new _ _ | exact heap_alloc2_old _ _ _ | exact heap_alloc2_new _ _ _) (by simp)) ad s.names.length nc (s.names.flatMap strV) (by rfl) (flat_length strV 1 (fun _ => rfl) _) (by first | exact news_of hnm (bwa _ _) | exact news_of hnm (bwb _ _ _)) (strV_one _) (by unfold maxLen; omega) (by omega) (by simp <;> omega) ?_; intro v1 w3 hown hgrow hat; rw [Nat.zero_add, List.nil_append] at hown; obtain ⟨a1, cc1, hv1, -⟩ := own_shape hown; subst hv1; have hb3 : Below wo.heap.size wo w3 := (by first | exact bw1 hgrow (by intro k hk; cases hk; simp) | exact bw2 hgrow (by intro k hk; cases hk; simp)); have q0 := (hb3.cell (p := ⟨w.heap.size, 5, none⟩) hws).trans hbx; have q1 := (hb3.cell (p := ⟨b, off + k * 3, none⟩) hbl).trans c0; have q2 := (hb3.cell (p := ⟨b, off + k * 3 + 1, none⟩) hbl).trans c1; (first | (have sb0 : w3.heap[wo.heap.size]? = some (.cells #[.slice none 0 0, .bool false, .slice none 0 0] 46 (0, 0)) := sbA (w := wo) hgrow; obtain ⟨s0, s1, s2, f0, f1, f2, sl⟩ := cells3f sb0; have HSB := Lib.hid sb0; clear sb0) | (have sb0 : w3.heap[wo.heap.size + 1]? = some (.cells #[.slice none 0 0, .bool false, .slice none 0 0] 46 (0, 0)) := sbB (w := wo) hgrow; obtain ⟨s0, s1, s2, f0, f1, f2, sl⟩ := cells3f sb0; have HSB := Lib.hid sb0; clear sb0) | skip); have HG := Lib.hid (And.intro hown (And.intro hgrow (And.intro hat hb3))); clear hown hgrow hat hb3))
            all_goals (go_wp2_with fail; go_meet)
            · exact ⟨_, _, rfl, build_new HG.out.1 HG.out.2.2.2⟩
            · exact ⟨_, _, rfl, build_set HG.out.1 HG.out.2.2.2 HSB.out (by omega) (by rcases HG.out.2.2.1 with q | q <;> (intro e; rw [e] at q; simp [Value.ownBlock] at q <;> omega))⟩
            · exact ⟨_, _, rfl, build_set HG.out.1 HG.out.2.2.2 HSB.out (by omega) (by rcases HG.out.2.2.1 with q | q <;> (intro e; rw [e] at q; simp [Value.ownBlock] at q <;> omega))⟩
        case rest =>
          obtain ⟨sb, nv, rfl, hbuild, hbw⟩ := hcut
          obtain ⟨na', nc', rfl, -⟩ := own_shape hbuild.names
          have HBUILD := Lib.hid hbuild
          have HBW := Lib.hid hbw
          have HHLC := Lib.hid hlc
          have HS := Lib.hid hs
          have HQ := Lib.hid hbx
          have HC2 := Lib.hid c2
          have hf2 := hfit.llen
          clear hbuild hbw hnm hlc hs hbelr hfit hnil c0 c1 c2 hbx
          go_wp2_with fail
          go_loopw [10] (fun i wl => ∃ (j : Nat) (lv : Value), j ≤ s.locs.length ∧ i = .int .i64 j ∧ Hid (Build wl wo.heap.size sb (.slice na' s.names.length nc') lv s j) ∧ Hid (Below wo.heap.size wo wl)) (fun i _ => s.locs.length - (intOf i).toNat)
          case atStart => exact ⟨0, _, Nat.zero_le _, rfl, HBUILD, HBW⟩
          case round =>
            obtain ⟨j, lv, hj, rfl, hbd, hbl2⟩ := hrel
            obtain ⟨la', lc', rfl, -⟩ := own_shape hbd.out.locs
            have q0 := (hbl2.out.cell (p := ⟨w.heap.size, 5, none⟩) hws).trans HQ.out
            have q1 := (hbl2.out.cell (p := ⟨b, off + k * 3 + 2, none⟩) hbl).trans HC2.out
            obtain ⟨v0, v1, v2, v3, v4⟩ := hbd.out.cell
            by_cases hjn : j < s.locs.length
            · obtain ⟨l, hl⟩ : ∃ l, s.locs[j]? = some l := ⟨s.locs[j], List.getElem?_eq_getElem _⟩
              obtain ⟨b2, off2, rfl, hb2, e0, e1, e2, e3, e4, e5, e6, e7, e8, e9, e10, e11⟩ := LocsAt.get (HHLC.out.below hbl2.out) hl
              obtain ⟨i0, hi, hz0, hz1, hz2⟩ := info_parts info58
              have HHL := Lib.hid hl
              clear hl
              go_wp2_with fail
              go_region_law (first | (refine step_append_at rfl (.tmp 116) (.tmp 127) 44 rfl wo.heap.size 58 i0 zLoc 12 136 Try.underlying44 hi hz0 hz1 hz2 rfl (by decide) (.slice la' j lc') j ((s.locs.take j).flatMap locVals) (by simp [Act.eval]) (by exact own_foot HB4.out.1.locs ((Foot.refl w4 (fun _ => False)).alloc _) (fun _ _ => id)) ⟨w4.heap.size, 0, none⟩ 1 1 (locVals l) (by simp [Act.eval]) rfl (by exact news_block (heap_alloc_new _ _)) (locVals_one l) (by unfold maxLen; omega) (by omega) (by have := HB4.out.2.size; have := hbl2.out.size; simp; omega) ?_; intro lv2 w6 hown hgrow hat; obtain ⟨la2, lc2, hlv, -⟩ := own_shape hown; subst hlv; have HP := Lib.hid (Build.push HB4.out.1 HHL.out rfl hown hgrow hat); obtain ⟨s0, s1, s2, f0, f1, f2, sl⟩ := cells3f (Build.keep HB4.out.1 hgrow); clear hown hgrow hat) | (refine step_call19 rfl (.tmp 125) rfl _ (by rfl) (fun u w4 => u = (.agg #[.string l.pre, .int .i64 l.kind, .string l.root, .string l.index, .int .i64 l.gzip, .int .i64 l.expires, .string l.up, .bool l.cache, .int .i64 l.rate, .int .i64 l.burst, .int .i64 l.status, .string l.to]) ∧ Below wr.heap.size wr.drew w4) ((ownLoc_lit l _).mono fun e w' ⟨he, hb⟩ => ⟨_, he, rfl, hb⟩) ?_; rintro u w4 ⟨rfl, hb4⟩; have hb5 : Below wr.heap.size wr w4 := ((Below.refl _ wr).drew).trans hb4; have HB4 := Lib.hid (And.intro (hbd.out.below hb5) hb5); obtain ⟨z0, z1, z2, z3, z4⟩ := HB4.out.1.cell; have zz : ∀ o, (w4.alloc o).cell? ⟨sb, 2, none⟩ = some (.slice la' j lc') := fun o => cell_alloc z2 o; clear hb4 hb5))
              all_goals
                go_wp2_with fail
                go_roundw
                case rel => exact ⟨j + 1, _, by omega, by go_num, Lib.hid HP.out.1, Lib.hid ((hbl2.out.trans (HB4.out.2.mono hbl2.out.size)).trans HP.out.2)⟩
                case measure => simp [intOf]; omega
            · obtain rfl : j = s.locs.length := by omega
              obtain ⟨i0, hi, hz0, hz1, hz2⟩ := info_parts info46
              have hob : w.heap.size + 1 + 1 < wo.heap.size := by have := hfoot.out.size; omega
              have ho := (hbl2.out.block _ hob).trans hout.out
              obtain ⟨o0, o1, o2, o3, o4, o5, of4, of5, ol⟩ := out_cells ho
              have HO := Lib.hid ho
              have hrl : rows.length = k := by
                have := congrArg List.length hmap.out
                rw [List.length_map, List.length_take] at this
                have := HN.out; omega
              have hrk : rows.length ≤ k := by omega
              have HRL := Lib.hid hrl
              clear hrl ho
              obtain ⟨r, hr⟩ : ∃ r : SR, r = ⟨.slice na' s.names.length nc', .slice la' s.locs.length lc', s⟩ := ⟨_, rfl⟩
              have HIN : Hid (SrvIn wr wo.heap.size r) := Lib.hid (by rw [hr]; exact Build.done hbd.out)
              have hone := sr_one r na' la' s.names.length nc' s.locs.length lc' (by rw [hr]) (by rw [hr])
              have hcs : srCells r = [.slice na' s.names.length nc', .bool s.dflt, .slice la' s.locs.length lc'] := by rw [hr]; rfl
              have hrs : r.s = s := by rw [hr]
              have HONE := Lib.hid hone
              have HCS := Lib.hid hcs
              have HRS2 := Lib.hid hrs
              clear hone hcs hrs hr
              go_wp2_with (at_builtin; refine wpList_append_own_at _ rfl (.tmp 131) (.tmp 133) 27 rfl w2.heap.size 46 i0 (.agg #[.slice none 0 0, .bool false, .slice none 0 0]) 3 56 Try.underlying27 hi hz0 hz1 hz2 rfl (by decide) (.slice xa rows.length xc) rows.length (rows.flatMap srCells) rfl (own_foot (own_foot hrows.out.row (Foot.ofBelow hbl2.out (fun _ => False)) (fun _ _ => id)) ((Foot.refl wr (fun _ => False)).alloc _) (fun _ _ => id)) ⟨wr.heap.size, 0, none⟩ 1 1 (srCells r) rfl (by rw [HCS.out]; rfl) (by rw [HCS.out]; exact news_block (heap_alloc_new _ _)) HONE.out (by unfold maxLen; omega) (by omega) (by have := hbl2.out.size; have := hfoot.out.size; simp; omega) ?_; intro sv2 w6 hown hgrow _ hat; have HP := Lib.hid (SrvRows.push hrows.out (ob := w.heap.size + 1 + 1) (by omega) hfoot.out.size (Foot.ofBelow hbl2.out _) HIN.out rfl hown hgrow hat sv2); have ho6 := (grown_keep hgrow (by intro e; have := hrows.out.row.lt _ e; omega) ol).trans HO.out; obtain ⟨xa2, xc2, hsv, -⟩ := own_shape hown; subst hsv; clear o0 o1 o2 o3 o4 o5 of4 of5 hown hgrow hat; obtain ⟨o0, o1, o2, o3, o4, o5, of4, of5, ol6⟩ := out_cells ho6; have HO6 := Lib.hid ho6; clear ho6)
              go_roundw
              case rel =>
                refine ⟨k + 1, _, rows ++ [r], by omega, by go_num, Lib.hid ?_, Lib.hid (hfoot.out.trans HP.out.2 (fun b hb q => ?_)), Lib.hid HP.out.1, Lib.hid ?_⟩
                · rw [heap_setCell_same (off := 5) HO6.out]; rfl
                · rcases q with q | q
                  · exact q
                  · have := hrows.out.row.lt b q; omega
                · rw [List.map_append, hmap.out, List.take_add_one, HS.out]
                  simp [HRS2.out]
              case measure => simp [intOf]; omega
      · obtain rfl : N = k := by omega
        have hres := (hfoot.out.block (w.heap.size + 1) (by omega) (by omega)).trans HRS.out
        have hsz29 : (Try.prog.info? 29).map (·.size) = some 6 := by kernel_rfl
        obtain ⟨ya, yc, hyv, -⟩ := own_shape HUP.out.1.row
        subst hyv
        have hout2 := hout.out
        have hone6 : (#[.int .i64 k0, .int .i64 k1, .int .i64 k2, .int .i64 k3, .slice ya urows.length yc, .slice xa rows.length xc] : Array Value).all (·.oneCell') = true := by simp [Value.oneCell']
        clear hbel
        go_wp2_with (first | (refine wpList_load_row rfl 29 _ rfl (w.heap.size + 1 + 1) rfl 29 _ (0, 0) _ hout2 Try.underlying29 rfl hsz29 ?_) | (refine wpList_store_row rfl 29 (.tmp 2) (.tmp 136) rfl (w.heap.size + 1) #[.int .i64 k0, .int .i64 k1, .int .i64 k2, .int .i64 k3, .slice ya urows.length yc, .slice xa rows.length xc] rfl rfl 29 _ hres hsz29 rfl hone6 ?_))
        have hb3 := setRow_heap wo (w.heap.size + 1) _ #[.int .i64 k0, .int .i64 k1, .int .i64 k2, .int .i64 k3, .slice ya urows.length yc, .slice xa rows.length xc] 29 (0, 0) hres
        have hf3 : Foot wo (wo.setRow (w.heap.size + 1) #[.int .i64 k0, .int .i64 k1, .int .i64 k2, .int .i64 k3, .slice ya urows.length yc, .slice xa rows.length xc]) (fun b => b = w.heap.size + 1) :=
          ⟨rfl, rfl, rfl, by rw [setRow_size]; exact Nat.le_refl _, fun b hb hn => setRow_other _ _ _ _ hn⟩
        generalize wo.setRow (w.heap.size + 1) #[.int .i64 k0, .int .i64 k1, .int .i64 k2, .int .i64 k3, .slice ya urows.length yc, .slice xa rows.length xc] = w9 at hb3 hf3 ⊢
        have hf9 := (hfoot.out.mono (S' := fun b => b = w.heap.size + 1 + 1 ∨ b = w.heap.size + 1) (fun _ _ q => .inl q)).trans hf3 (fun _ _ q => .inr q)
        go_wp2_with fail
        refine bodyPost_ret (v := .agg #[.int .i64 k0, .int .i64 k1, .int .i64 k2, .int .i64 k3, .slice ya urows.length yc, .slice xa rows.length xc]) ?_ (by rfl) ?_
        · exact results_cell_row Try.results7 _ _ (w.heap.size + 1) 29 _ (0, 0) _ (by rfl) hb3 Try.underlying29 rfl hsz29
        refine ⟨_, _, urows, rows, w2.heap.size, rfl, HB2.out.trans (hf9.below (by omega) fun b hb q => by omega), by omega, ?_, HUP.out.2, ?_, ?_⟩
        · exact (UpsRows.base (HUP.out.1.foot hf9 fun b hb q => by omega) (by omega))
        · exact hrows.out.foot hf3 fun b hb q => by omega
        · rw [hmap.out, HN.out, List.take_length]
end Go.Proofs.Ytlaoeciflifggaa.Rt
