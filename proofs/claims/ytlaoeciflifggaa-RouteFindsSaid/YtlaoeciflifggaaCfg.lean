/- A configuration that is an argument. -/
import Derived.Test.YtlaoeciflifggaaKnw
set_option linter.unusedVariables false
namespace Go.Proofs.Ytlaoeciflifggaa.Rt
open Go.RowKit
open Go.Lib hiding intOf

/-- what a configuration must be that is an argument -/
structure CfgArg (w : World) (ua sa : Option Addr) (U : List Ups) (L : List Srv) : Prop where
  ups : UpssAt w ua U
  srvs : SrvsAt w sa L
  ulen : U.length * 56 ≤ 140737488351232
  slen : L.length * 56 ≤ 140737488351232
  uok : ∀ u ∈ U, UpsOk u
  sok : ∀ s ∈ L, SrvOk s
  sfit : ∀ s ∈ L, SrvFit s

theorem cells6c {w : World} {g : Nat} {k0 k1 k2 k3 : Int} {x y : Value} {t : TypeId} (h : w.heap[g]? = some (.cells #[.int .i64 k0, .int .i64 k1, .int .i64 k2, .int .i64 k3, x, y] t (0, 0))) :
    w.cell? ⟨g, 0, none⟩ = some (.int .i64 k0) ∧ w.cell? ⟨g, 1, none⟩ = some (.int .i64 k1) ∧ w.cell? ⟨g, 2, none⟩ = some (.int .i64 k2) ∧ w.cell? ⟨g, 3, none⟩ = some (.int .i64 k3) ∧ w.cell? ⟨g, 4, none⟩ = some x ∧ w.cell? ⟨g, 5, none⟩ = some y ∧ g < w.heap.size :=
  ⟨by simp [World.cell?, h], by simp [World.cell?, h], by simp [World.cell?, h], by simp [World.cell?, h], by simp [World.cell?, h], by simp [World.cell?, h], (Array.getElem?_eq_some_iff.1 h).1⟩

/-- where RouteNames stands when its servers have been asked for -/
structure Stand (w wr : World) (k0 k1 k2 k3 : Int) (ua sa : Option Addr) (uc sc : Nat) (U : List Ups) (L : List Srv) : Prop where
  box : wr.heap[w.heap.size]? = some (.cells #[.int .i64 k0, .int .i64 k1, .int .i64 k2, .int .i64 k3, .slice ua U.length uc, .slice sa L.length sc] 25 (0, 0))
  below : Below w.heap.size w wr
theorem Stand.later {w wr w' : World} {k0 k1 k2 k3 : Int} {ua sa : Option Addr} {uc sc : Nat} {U : List Ups} {L : List Srv} (h : Stand w wr k0 k1 k2 k3 ua sa uc sc U L) (hb : Below wr.heap.size wr w') : Stand w w' k0 k1 k2 k3 ua sa uc sc U L :=
  ⟨(hb.block w.heap.size (Array.getElem?_eq_some_iff.1 h.box).1).trans h.box, h.below.trans (hb.mono h.below.size)⟩

end Go.Proofs.Ytlaoeciflifggaa.Rt
