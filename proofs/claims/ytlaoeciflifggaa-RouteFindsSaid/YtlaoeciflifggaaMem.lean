/- How servers and locations lie in memory. -/
import Derived.Test.YtlaoeciflifggaaRtP
import Derived.Test.YtlaoeciflifggaaFoot
set_option linter.unusedVariables false
namespace Go.Proofs.Ytlaoeciflifggaa.Rt
open Go.RowKit
open Go.Lib hiding intOf

def locVals (l : Loc) : List Value := [.string l.pre, .int .i64 l.kind, .string l.root, .string l.index, .int .i64 l.gzip, .int .i64 l.expires, .string l.up, .bool l.cache, .int .i64 l.rate, .int .i64 l.burst, .int .i64 l.status, .string l.to]

/-- a slice of structs (or of plain values), element by element -/
def ElemsAt {α : Type} (w : World) (a : Option Addr) (sz : Nat) (vals : α → List Value) (L : List α) : Prop :=
  ∀ i x, L[i]? = some x → ∃ b off, a = some ⟨b, off, none⟩ ∧ b < w.heap.size ∧ ∀ j v, (vals x)[j]? = some v → w.cell? ⟨b, off + i * sz + j, none⟩ = some v

theorem ElemsAt.below {α : Type} {w w' : World} {a : Option Addr} {sz : Nat} {vals : α → List Value} {L : List α} (h : ElemsAt w a sz vals L) (hb : Below w.heap.size w w') : ElemsAt w' a sz vals L := fun i x hx => by
  obtain ⟨b, off, rfl, hlt, hc⟩ := h i x hx
  exact ⟨b, off, rfl, Nat.lt_of_lt_of_le hlt hb.size, fun j v hv => (hb.cell (p := ⟨b, off + i * sz + j, none⟩) hlt).trans (hc j v hv)⟩

abbrev NamesAt (w : World) (a : Option Addr) (L : List ByteArray) : Prop := ElemsAt w a 1 (fun s => [.string s]) L
abbrev LocsAt (w : World) (a : Option Addr) (L : List Loc) : Prop := ElemsAt w a 12 locVals L
abbrev PeersAt (w : World) (a : Option Addr) (L : List (Int × Int)) : Prop := ElemsAt w a 2 (fun p => [.int .i64 p.1, .int .i64 p.2]) L

/-- a server as a value -/
def SrvV (w : World) (v : List Value) (s : Srv) : Prop :=
  ∃ na nc la lc, v = [.slice na s.names.length nc, .bool s.dflt, .slice la s.locs.length lc] ∧ NamesAt w na s.names ∧ LocsAt w la s.locs ∧ (na = none → nc = 0)
theorem SrvV.below {w w' : World} {v : List Value} {s : Srv} (h : SrvV w v s) (hb : Below w.heap.size w w') : SrvV w' v s := by
  obtain ⟨na, nc, la, lc, rfl, h1, h2, h3⟩ := h
  exact ⟨na, nc, la, lc, rfl, h1.below hb, h2.below hb, h3⟩

/-- an upstream as a value -/
def UpsV (w : World) (v : List Value) (u : Ups) : Prop :=
  ∃ pa pc, v = [.string u.name, .slice pa u.peers.length pc, .int .i64 u.timeout, .int .i64 u.retries] ∧ PeersAt w pa u.peers
theorem UpsV.below {w w' : World} {v : List Value} {u : Ups} (h : UpsV w v u) (hb : Below w.heap.size w w') : UpsV w' v u := by
  obtain ⟨pa, pc, rfl, h1⟩ := h
  exact ⟨pa, pc, rfl, h1.below hb⟩

/-- a slice of such values -/
def StructsAt {α : Type} (w : World) (a : Option Addr) (sz : Nat) (V : World → List Value → α → Prop) (L : List α) : Prop :=
  ∀ i x, L[i]? = some x → ∃ b off v, a = some ⟨b, off, none⟩ ∧ b < w.heap.size ∧ V w v x ∧ ∀ j u, v[j]? = some u → w.cell? ⟨b, off + i * sz + j, none⟩ = some u
theorem StructsAt.below {α : Type} {w w' : World} {a : Option Addr} {sz : Nat} {V : World → List Value → α → Prop} {L : List α} (hV : ∀ v x, V w v x → V w' v x) (h : StructsAt w a sz V L) (hb : Below w.heap.size w w') : StructsAt w' a sz V L := fun i x hx => by
  obtain ⟨b, off, v, rfl, hlt, hv, hc⟩ := h i x hx
  exact ⟨b, off, v, rfl, Nat.lt_of_lt_of_le hlt hb.size, hV v x hv, fun j u hu => (hb.cell (p := ⟨b, off + i * sz + j, none⟩) hlt).trans (hc j u hu)⟩

def SrvsAt (w : World) (a : Option Addr) (L : List Srv) : Prop := StructsAt w a 3 SrvV L
theorem SrvsAt.below {w w' : World} {a : Option Addr} {L : List Srv} (h : SrvsAt w a L) (hb : Below w.heap.size w w') : SrvsAt w' a L := StructsAt.below (fun _ _ h => h.below hb) h hb
def UpssAt (w : World) (a : Option Addr) (L : List Ups) : Prop := StructsAt w a 4 UpsV L
theorem UpssAt.below {w w' : World} {a : Option Addr} {L : List Ups} (h : UpssAt w a L) (hb : Below w.heap.size w w') : UpssAt w' a L := StructsAt.below (fun _ _ h => h.below hb) h hb

/-- what is known of the strings and lengths of servers -/
structure SrvOk (s : Srv) : Prop where
  nlen : s.names.length ≤ 9223372036854775807
  llen : s.locs.length ≤ 9223372036854775807
  names : ∀ n ∈ s.names, n.size ≤ 9223372036854775807

/-! ### The walk's facts -/
theorem NamesAt.get {w : World} {a : Option Addr} {L : List ByteArray} (h : NamesAt w a L) {i : Nat} {s : ByteArray} (hi : L[i]? = some s) : ∃ b off, a = some ⟨b, off, none⟩ ∧ b < w.heap.size ∧ w.cell? ⟨b, off + i, none⟩ = some (.string s) := by
  obtain ⟨b, off, rfl, hlt, hc⟩ := h i s hi
  have := hc 0 _ rfl
  rw [Nat.mul_one, Nat.add_zero] at this
  exact ⟨b, off, rfl, hlt, this⟩

theorem LocsAt.get {w : World} {a : Option Addr} {L : List Loc} (h : LocsAt w a L) {i : Nat} {l : Loc} (hi : L[i]? = some l) : ∃ b off, a = some ⟨b, off, none⟩ ∧ b < w.heap.size ∧
    w.cell? ⟨b, off + i * 12, none⟩ = some (.string l.pre) ∧ w.cell? ⟨b, off + i * 12 + 1, none⟩ = some (.int .i64 l.kind) ∧ w.cell? ⟨b, off + i * 12 + 2, none⟩ = some (.string l.root) ∧
    w.cell? ⟨b, off + i * 12 + 3, none⟩ = some (.string l.index) ∧ w.cell? ⟨b, off + i * 12 + 4, none⟩ = some (.int .i64 l.gzip) ∧ w.cell? ⟨b, off + i * 12 + 5, none⟩ = some (.int .i64 l.expires) ∧
    w.cell? ⟨b, off + i * 12 + 6, none⟩ = some (.string l.up) ∧ w.cell? ⟨b, off + i * 12 + 7, none⟩ = some (.bool l.cache) ∧ w.cell? ⟨b, off + i * 12 + 8, none⟩ = some (.int .i64 l.rate) ∧
    w.cell? ⟨b, off + i * 12 + 9, none⟩ = some (.int .i64 l.burst) ∧ w.cell? ⟨b, off + i * 12 + 10, none⟩ = some (.int .i64 l.status) ∧ w.cell? ⟨b, off + i * 12 + 11, none⟩ = some (.string l.to) := by
  obtain ⟨b, off, rfl, hlt, hc⟩ := h i l hi
  exact ⟨b, off, rfl, hlt, hc 0 _ rfl, hc 1 _ rfl, hc 2 _ rfl, hc 3 _ rfl, hc 4 _ rfl, hc 5 _ rfl, hc 6 _ rfl, hc 7 _ rfl, hc 8 _ rfl, hc 9 _ rfl, hc 10 _ rfl, hc 11 _ rfl⟩

theorem SrvsAt.get {w : World} {a : Option Addr} {L : List Srv} (h : SrvsAt w a L) {i : Nat} {s : Srv} (hi : L[i]? = some s) : ∃ b off na nc la lc, a = some ⟨b, off, none⟩ ∧ b < w.heap.size ∧
    w.cell? ⟨b, off + i * 3, none⟩ = some (.slice na s.names.length nc) ∧ w.cell? ⟨b, off + i * 3 + 1, none⟩ = some (.bool s.dflt) ∧ w.cell? ⟨b, off + i * 3 + 2, none⟩ = some (.slice la s.locs.length lc) ∧
    NamesAt w na s.names ∧ LocsAt w la s.locs := by
  obtain ⟨b, off, v, rfl, hlt, ⟨na, nc, la, lc, rfl, h1, h2, _⟩, hc⟩ := h i s hi
  exact ⟨b, off, na, nc, la, lc, rfl, hlt, hc 0 _ rfl, hc 1 _ rfl, hc 2 _ rfl, h1, h2⟩
theorem SrvsAt.get2 {w : World} {a : Option Addr} {L : List Srv} (h : SrvsAt w a L) {i : Nat} {s : Srv} (hi : L[i]? = some s) : ∃ b off na nc la lc, a = some ⟨b, off, none⟩ ∧ b < w.heap.size ∧
    w.cell? ⟨b, off + i * 3, none⟩ = some (.slice na s.names.length nc) ∧ w.cell? ⟨b, off + i * 3 + 1, none⟩ = some (.bool s.dflt) ∧ w.cell? ⟨b, off + i * 3 + 2, none⟩ = some (.slice la s.locs.length lc) ∧
    NamesAt w na s.names ∧ LocsAt w la s.locs ∧ (na = none → nc = 0) := by
  obtain ⟨b, off, v, rfl, hlt, ⟨na, nc, la, lc, rfl, h1, h2, h3⟩, hc⟩ := h i s hi
  exact ⟨b, off, na, nc, la, lc, rfl, hlt, hc 0 _ rfl, hc 1 _ rfl, hc 2 _ rfl, h1, h2, h3⟩

theorem UpssAt.get {w : World} {a : Option Addr} {L : List Ups} (h : UpssAt w a L) {i : Nat} {u : Ups} (hi : L[i]? = some u) : ∃ b off pa pc, a = some ⟨b, off, none⟩ ∧ b < w.heap.size ∧
    w.cell? ⟨b, off + i * 4, none⟩ = some (.string u.name) ∧ w.cell? ⟨b, off + i * 4 + 1, none⟩ = some (.slice pa u.peers.length pc) ∧ w.cell? ⟨b, off + i * 4 + 2, none⟩ = some (.int .i64 u.timeout) ∧
    w.cell? ⟨b, off + i * 4 + 3, none⟩ = some (.int .i64 u.retries) ∧ PeersAt w pa u.peers := by
  obtain ⟨b, off, v, rfl, hlt, ⟨pa, pc, rfl, h1⟩, hc⟩ := h i u hi
  exact ⟨b, off, pa, pc, rfl, hlt, hc 0 _ rfl, hc 1 _ rfl, hc 2 _ rfl, hc 3 _ rfl, h1⟩
theorem PeersAt.get {w : World} {a : Option Addr} {L : List (Int × Int)} (h : PeersAt w a L) {i : Nat} {p : Int × Int} (hi : L[i]? = some p) : ∃ b off, a = some ⟨b, off, none⟩ ∧ b < w.heap.size ∧
    w.cell? ⟨b, off + i * 2, none⟩ = some (.int .i64 p.1) ∧ w.cell? ⟨b, off + i * 2 + 1, none⟩ = some (.int .i64 p.2) := by
  obtain ⟨b, off, rfl, hlt, hc⟩ := h i p hi
  exact ⟨b, off, rfl, hlt, hc 0 _ rfl, hc 1 _ rfl⟩

/-! ### Closures and the best location -/
set_option maxHeartbeats 1000000 in
theorem rankLoc_any (path : ByteArray) (l : Loc) (pb : Nat) (w : World) (hc : w.cell? ⟨pb, 0, none⟩ = some (.string path)) (hp1 : path.size ≤ 4611686018427387904) :
    Calls Try.prog 27 #[.agg (locVals l).toArray, .pointer (some ⟨pb, 0, none⟩)] w (NatBelow (rk path l) w) := by
  have hc' : ∀ o, (w.alloc o).cell? ⟨pb, 0, none⟩ = some (.string path) := fun o => cell_alloc hc o
  unfold locVals
  cases hh : hp path l.pre with
  | true =>
    have hr : rk path l = 1 + l.pre.size := by unfold rk; rw [if_pos hh]
    have hs := hp_size hh
    have hs2 : l.pre.size ≤ 4611686018427387904 := by omega
    have HR := Lib.hid hr
    have HH := Lib.hid hh
    clear hr hh
    go_enter Try.func27, Try.ntmps27
    go_wp2_with (go_at_call 28; refine (has_any _ _ _).mono ?_; rintro e w' ⟨rfl, rfl⟩; rw [HH.out])
    go_ret
    exact ⟨by rw [HR.out]; congr 2, ((Below.refl _ w).alloc (Nat.le_refl _) _)⟩
  | false =>
    have hr : rk path l = 0 := by unfold rk; rw [if_neg (by rw [hh]; simp)]
    have HR := Lib.hid hr
    have HH := Lib.hid hh
    clear hr hh
    go_enter Try.func27, Try.ntmps27
    go_wp2_with (go_at_call 28; refine (has_any _ _ _).mono ?_; rintro e w' ⟨rfl, rfl⟩; rw [HH.out])
    go_ret
    exact ⟨by rw [HR.out]; rfl, ((Below.refl _ w).alloc (Nat.le_refl _) _)⟩
end Go.Proofs.Ytlaoeciflifggaa.Rt
