/-
  No cell of these rows narrows 'for every input' (looked for: loops, veiled, ifaces, maps, wideKeys, modest, calm, conditions, laid).
  DERIVED. THE GIVEN ROWS OF THIS SEAT. 5 by the template 'for every input the law returns true; each argument reads behind the call as it read before'; 0 by the template 'total and deterministic' (their statements: YtmdallmbmjcdfaaTotals.lean).
  GIVEN WITH THE SEED: the statements are not yours to turn. If you find one false, say at which input.
  Laid BY PROGRAM, IN A SANDBOX (cutbox-rows.mjs): the forced cells as the released guide's own fill.sh prints them over the translation d02a37d3e25d1a29… (all of the seat's roots in one cut). By AI agents, Wed Nov 11 2026. No macro, syntax, notation, axiom, sorry.
-/
import Derived.Test.YtmdallmbmjcdfaaChecked
import GoSem.Claim
import GoSem.ClaimJoined
import GoSem.ClaimMapViews
import Derived.JoinedTies
import Derived.KernelRfl
namespace Go.Proofs.Ytmdallmbmjcdfaa
/- THE CELL 'sum', in the pinned program and in every row, IS THE sha256 OF THE DUMP (.gsa) THAT YtmdallmbmjcdfaaProg.lean LOADS. Nothing in Lean hashes anything: it is a label: what it is worth is what the hold of that sum in a sandbox is worth. -/
noncomputable def Try.pinned : Pinned := { name := "ytmdallmbmjcdfaa", sum := "d02a37d3e25d1a29dda5a18d6c7471de1043ac3ebb98db1a7419a9899a0414da", checked := Try.checked }
namespace Rows
def none {H : Type} : Left H := { results := [], args := [] }

/-- 'gatehouselaw20.LimitsBound': WHATEVER THE INPUT: true; the input reads as it did. -/
def limitsBoundSpec : ChangeSpec := { name := "limitsBound", fn := fun _ => fun
  | [d1, d2, d3] => { results := [.lit (.bool true)], args := [d1, d2, d3] }
  | _ => none }
def limitsBoundRow : OpenClaim := { program := "ytmdallmbmjcdfaa", sum := "d02a37d3e25d1a29dda5a18d6c7471de1043ac3ebb98db1a7419a9899a0414da", func := "gatehouse/gatehouselaw20.LimitsBound", spec := "limitsBound", apart := false }
def LimitsBoundSaid : Prop := limitsBoundRow.holds Try.pinned (OpenSpec.ofChange limitsBoundSpec)

/-- ITS FALSE NEIGHBOUR: 'it returns false'. Refute it at one input. -/
def limitsBoundWrong : ChangeSpec := { name := "limitsBound", fn := fun _ => fun
  | [d1, d2, d3] => { results := [.lit (.bool false)], args := [d1, d2, d3] }
  | _ => none }
def LimitsBoundWrongFalsely : Prop := limitsBoundRow.holds Try.pinned (OpenSpec.ofChange limitsBoundWrong)

/-- 'gatehouselaw20.LimitsSoon': WHATEVER THE INPUT: true; the input reads as it did. -/
def limitsSoonSpec : ChangeSpec := { name := "limitsSoon", fn := fun _ => fun
  | [d1, d2, d3] => { results := [.lit (.bool true)], args := [d1, d2, d3] }
  | _ => none }
def limitsSoonRow : OpenClaim := { program := "ytmdallmbmjcdfaa", sum := "d02a37d3e25d1a29dda5a18d6c7471de1043ac3ebb98db1a7419a9899a0414da", func := "gatehouse/gatehouselaw20.LimitsSoon", spec := "limitsSoon", apart := false }
def LimitsSoonSaid : Prop := limitsSoonRow.holds Try.pinned (OpenSpec.ofChange limitsSoonSpec)

/-- ITS FALSE NEIGHBOUR: 'it returns false'. Refute it at one input. -/
def limitsSoonWrong : ChangeSpec := { name := "limitsSoon", fn := fun _ => fun
  | [d1, d2, d3] => { results := [.lit (.bool false)], args := [d1, d2, d3] }
  | _ => none }
def LimitsSoonWrongFalsely : Prop := limitsSoonRow.holds Try.pinned (OpenSpec.ofChange limitsSoonWrong)

/-- 'gatehouselaw20.LimitsAllows': WHATEVER THE INPUT: true; the input reads as it did. -/
def limitsAllowsSpec : ChangeSpec := { name := "limitsAllows", fn := fun _ => fun
  | [d1, d2, d3, d4, d5] => { results := [.lit (.bool true)], args := [d1, d2, d3, d4, d5] }
  | _ => none }
def limitsAllowsRow : OpenClaim := { program := "ytmdallmbmjcdfaa", sum := "d02a37d3e25d1a29dda5a18d6c7471de1043ac3ebb98db1a7419a9899a0414da", func := "gatehouse/gatehouselaw20.LimitsAllows", spec := "limitsAllows", apart := false }
def LimitsAllowsSaid : Prop := limitsAllowsRow.holds Try.pinned (OpenSpec.ofChange limitsAllowsSpec)

/-- ITS FALSE NEIGHBOUR: 'it returns false'. Refute it at one input. -/
def limitsAllowsWrong : ChangeSpec := { name := "limitsAllows", fn := fun _ => fun
  | [d1, d2, d3, d4, d5] => { results := [.lit (.bool false)], args := [d1, d2, d3, d4, d5] }
  | _ => none }
def LimitsAllowsWrongFalsely : Prop := limitsAllowsRow.holds Try.pinned (OpenSpec.ofChange limitsAllowsWrong)

/-- 'gatehouselaw20.LimitsGates': WHATEVER THE INPUT: true; the input reads as it did. -/
def limitsGatesSpec : ChangeSpec := { name := "limitsGates", fn := fun _ => fun
  | [d1, d2] => { results := [.lit (.bool true)], args := [d1, d2] }
  | _ => none }
def limitsGatesRow : OpenClaim := { program := "ytmdallmbmjcdfaa", sum := "d02a37d3e25d1a29dda5a18d6c7471de1043ac3ebb98db1a7419a9899a0414da", func := "gatehouse/gatehouselaw20.LimitsGates", spec := "limitsGates", unfollowed := true, recurses := true, apart := false }
def LimitsGatesSaid : Prop := limitsGatesRow.holds Try.pinned (OpenSpec.ofChange limitsGatesSpec)

/-- ITS FALSE NEIGHBOUR: 'it returns false'. Refute it at one input. -/
def limitsGatesWrong : ChangeSpec := { name := "limitsGates", fn := fun _ => fun
  | [d1, d2] => { results := [.lit (.bool false)], args := [d1, d2] }
  | _ => none }
def LimitsGatesWrongFalsely : Prop := limitsGatesRow.holds Try.pinned (OpenSpec.ofChange limitsGatesWrong)

/-- 'gatehouselaw20.LimitsNil': WHATEVER THE INPUT: true; the input reads as it did. -/
def limitsNilSpec : ChangeSpec := { name := "limitsNil", fn := fun _ => fun
  | [d1, d2] => { results := [.lit (.bool true)], args := [d1, d2] }
  | _ => none }
def limitsNilRow : OpenClaim := { program := "ytmdallmbmjcdfaa", sum := "d02a37d3e25d1a29dda5a18d6c7471de1043ac3ebb98db1a7419a9899a0414da", func := "gatehouse/gatehouselaw20.LimitsNil", spec := "limitsNil", unfollowed := true, recurses := true, apart := false }
def LimitsNilSaid : Prop := limitsNilRow.holds Try.pinned (OpenSpec.ofChange limitsNilSpec)

/-- ITS FALSE NEIGHBOUR: 'it returns false'. Refute it at one input. -/
def limitsNilWrong : ChangeSpec := { name := "limitsNil", fn := fun _ => fun
  | [d1, d2] => { results := [.lit (.bool false)], args := [d1, d2] }
  | _ => none }
def LimitsNilWrongFalsely : Prop := limitsNilRow.holds Try.pinned (OpenSpec.ofChange limitsNilWrong)

/- THE SECOND FORM. 'bulk': how many values and letters a reading holds, each counted each time it is reached (what is shared counts as often as it is met; a slice's spare places count too). A statement '..UptoSaid' is the law's where the arguments, and the package variables that the reading takes, are together of bulk at most 1048576: NARROWER than '..Said'. Prove '..Said' where nothing that the law and all that it calls make is longer than what came in: it says more and counts as full. Else prove '..UptoSaid'. A law counts once. -/
mutual
def uptoBulk {H : Type} : DataW H → Nat
  | .lit (.string bytes) => bytes.length + 1
  | .lit _ => 1
  | .nil => 1
  | .ptr d => uptoBulk d + 1
  | .slice elems spare => uptoBulkAll elems + uptoBulkAll spare + 1
  | .agg parts => uptoBulkAll parts + 1
  | .iface _ d => uptoBulk d + 1
  | .map entries => uptoBulkEntries entries + 1
  | .held _ => 1
def uptoBulkAll {H : Type} : List (DataW H) → Nat
  | [] => 0
  | d :: r => uptoBulk d + uptoBulkAll r
def uptoBulkEntries {H : Type} : List (Lit × DataW H) → Nat
  | [] => 0
  | x :: r => uptoBulkEntry x + uptoBulkEntries r
def uptoBulkEntry {H : Type} : Lit × DataW H → Nat
  | (.string bytes, d) => bytes.length + uptoBulk d + 1
  | (_, d) => uptoBulk d + 1
 end
def uptoSmall : (H : Type) → List (DataW H) → Bool := fun _ ds => decide (uptoBulkAll ds ≤ 1048576)
def OpenSpec.upto (s : _root_.Go.ChangeSpec) : _root_.Go.OpenSpec := { _root_.Go.OpenSpec.ofChange s with cond := some uptoSmall }

/-- 'gatehouselaw20.LimitsBound', WHERE WHAT IT READS IS OF BULK AT MOST 1048576: true; the input reads as it did. -/
def limitsBoundUptoRow : OpenClaim := { program := "ytmdallmbmjcdfaa", sum := "d02a37d3e25d1a29dda5a18d6c7471de1043ac3ebb98db1a7419a9899a0414da", func := "gatehouse/gatehouselaw20.LimitsBound", spec := "limitsBound", apart := false, narrowed := true }
def LimitsBoundUptoSaid : Prop := limitsBoundUptoRow.holds Try.pinned (OpenSpec.upto limitsBoundSpec)

/-- 'gatehouselaw20.LimitsSoon', WHERE WHAT IT READS IS OF BULK AT MOST 1048576: true; the input reads as it did. -/
def limitsSoonUptoRow : OpenClaim := { program := "ytmdallmbmjcdfaa", sum := "d02a37d3e25d1a29dda5a18d6c7471de1043ac3ebb98db1a7419a9899a0414da", func := "gatehouse/gatehouselaw20.LimitsSoon", spec := "limitsSoon", apart := false, narrowed := true }
def LimitsSoonUptoSaid : Prop := limitsSoonUptoRow.holds Try.pinned (OpenSpec.upto limitsSoonSpec)

/-- 'gatehouselaw20.LimitsAllows', WHERE WHAT IT READS IS OF BULK AT MOST 1048576: true; the input reads as it did. -/
def limitsAllowsUptoRow : OpenClaim := { program := "ytmdallmbmjcdfaa", sum := "d02a37d3e25d1a29dda5a18d6c7471de1043ac3ebb98db1a7419a9899a0414da", func := "gatehouse/gatehouselaw20.LimitsAllows", spec := "limitsAllows", apart := false, narrowed := true }
def LimitsAllowsUptoSaid : Prop := limitsAllowsUptoRow.holds Try.pinned (OpenSpec.upto limitsAllowsSpec)

/-- 'gatehouselaw20.LimitsGates', WHERE WHAT IT READS IS OF BULK AT MOST 1048576: true; the input reads as it did. -/
def limitsGatesUptoRow : OpenClaim := { program := "ytmdallmbmjcdfaa", sum := "d02a37d3e25d1a29dda5a18d6c7471de1043ac3ebb98db1a7419a9899a0414da", func := "gatehouse/gatehouselaw20.LimitsGates", spec := "limitsGates", unfollowed := true, recurses := true, apart := false, narrowed := true }
def LimitsGatesUptoSaid : Prop := limitsGatesUptoRow.holds Try.pinned (OpenSpec.upto limitsGatesSpec)

/-- 'gatehouselaw20.LimitsNil', WHERE WHAT IT READS IS OF BULK AT MOST 1048576: true; the input reads as it did. -/
def limitsNilUptoRow : OpenClaim := { program := "ytmdallmbmjcdfaa", sum := "d02a37d3e25d1a29dda5a18d6c7471de1043ac3ebb98db1a7419a9899a0414da", func := "gatehouse/gatehouselaw20.LimitsNil", spec := "limitsNil", unfollowed := true, recurses := true, apart := false, narrowed := true }
def LimitsNilUptoSaid : Prop := limitsNilUptoRow.holds Try.pinned (OpenSpec.upto limitsNilSpec)

end Rows
end Go.Proofs.Ytmdallmbmjcdfaa
