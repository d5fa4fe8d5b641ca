/-
  No cell of these rows narrows 'for every input' (looked for: loops, veiled, ifaces, maps, wideKeys, modest, calm, conditions, laid).
  DERIVED. THE GIVEN ROWS OF THIS SEAT. 7 by the template 'for every input the law returns true; each argument reads behind the call as it read before'; 0 by the template 'total and deterministic' (their statements: YtinmfkbppgjcpaaTotals.lean).
  GIVEN WITH THE SEED: the statements are not yours to turn. If you find one false, say at which input.
  Laid BY PROGRAM, IN A SANDBOX (cutbox-rows.mjs): the forced cells as the released guide's own fill.sh prints them over the translation b76b9c6a66aef031… (all of the seat's roots in one cut). By AI agents, Wed Nov 11 2026. No macro, syntax, notation, axiom, sorry.
-/
import Derived.Test.YtinmfkbppgjcpaaChecked
import GoSem.Claim
import GoSem.ClaimJoined
import GoSem.ClaimMapViews
import Derived.JoinedTies
import Derived.KernelRfl
namespace Go.Proofs.Ytinmfkbppgjcpaa
/- THE CELL 'sum', in the pinned program and in every row, IS THE sha256 OF THE DUMP (.gsa) THAT YtinmfkbppgjcpaaProg.lean LOADS. Nothing in Lean hashes anything: it is a label: what it is worth is what the hold of that sum in a sandbox is worth. -/
noncomputable def Try.pinned : Pinned := { name := "ytinmfkbppgjcpaa", sum := "b76b9c6a66aef0311025e1bb6c515985bbb9926db3a2d44b4218794be7392df3", checked := Try.checked }
namespace Rows
def none {H : Type} : Left H := { results := [], args := [] }

/-- 'gatehouselaw04.LzPieces': WHATEVER THE INPUT: true; the input reads as it did. -/
def lzPiecesSpec : ChangeSpec := { name := "lzPieces", fn := fun _ => fun
  | [d1, d2, d3] => { results := [.lit (.bool true)], args := [d1, d2, d3] }
  | _ => none }
def lzPiecesRow : OpenClaim := { program := "ytinmfkbppgjcpaa", sum := "b76b9c6a66aef0311025e1bb6c515985bbb9926db3a2d44b4218794be7392df3", func := "gatehouse/gatehouselaw04.LzPieces", spec := "lzPieces", unfollowed := true, recurses := true, plainKeys := false, apart := false }
def LzPiecesSaid : Prop := lzPiecesRow.holds Try.pinned (OpenSpec.ofChange lzPiecesSpec)

/-- ITS FALSE NEIGHBOUR: 'it returns false'. Refute it at one input. -/
def lzPiecesWrong : ChangeSpec := { name := "lzPieces", fn := fun _ => fun
  | [d1, d2, d3] => { results := [.lit (.bool false)], args := [d1, d2, d3] }
  | _ => none }
def LzPiecesWrongFalsely : Prop := lzPiecesRow.holds Try.pinned (OpenSpec.ofChange lzPiecesWrong)

/-- 'gatehouselaw04.LzGreedy': WHATEVER THE INPUT: true; the input reads as it did. -/
def lzGreedySpec : ChangeSpec := { name := "lzGreedy", fn := fun _ => fun
  | [d1, d2] => { results := [.lit (.bool true)], args := [d1, d2] }
  | _ => none }
def lzGreedyRow : OpenClaim := { program := "ytinmfkbppgjcpaa", sum := "b76b9c6a66aef0311025e1bb6c515985bbb9926db3a2d44b4218794be7392df3", func := "gatehouse/gatehouselaw04.LzGreedy", spec := "lzGreedy", unfollowed := true, recurses := true, plainKeys := false, apart := false }
def LzGreedySaid : Prop := lzGreedyRow.holds Try.pinned (OpenSpec.ofChange lzGreedySpec)

/-- ITS FALSE NEIGHBOUR: 'it returns false'. Refute it at one input. -/
def lzGreedyWrong : ChangeSpec := { name := "lzGreedy", fn := fun _ => fun
  | [d1, d2] => { results := [.lit (.bool false)], args := [d1, d2] }
  | _ => none }
def LzGreedyWrongFalsely : Prop := lzGreedyRow.holds Try.pinned (OpenSpec.ofChange lzGreedyWrong)

/-- 'gatehouselaw04.LzNone': WHATEVER THE INPUT: true; the input reads as it did. -/
def lzNoneSpec : ChangeSpec := { name := "lzNone", fn := fun _ => fun
  | [d1, d2, d3] => { results := [.lit (.bool true)], args := [d1, d2, d3] }
  | _ => none }
def lzNoneRow : OpenClaim := { program := "ytinmfkbppgjcpaa", sum := "b76b9c6a66aef0311025e1bb6c515985bbb9926db3a2d44b4218794be7392df3", func := "gatehouse/gatehouselaw04.LzNone", spec := "lzNone", unfollowed := true, recurses := true, plainKeys := false, apart := false }
def LzNoneSaid : Prop := lzNoneRow.holds Try.pinned (OpenSpec.ofChange lzNoneSpec)

/-- ITS FALSE NEIGHBOUR: 'it returns false'. Refute it at one input. -/
def lzNoneWrong : ChangeSpec := { name := "lzNone", fn := fun _ => fun
  | [d1, d2, d3] => { results := [.lit (.bool false)], args := [d1, d2, d3] }
  | _ => none }
def LzNoneWrongFalsely : Prop := lzNoneRow.holds Try.pinned (OpenSpec.ofChange lzNoneWrong)

/-- 'gatehouselaw04.LzSymbols': WHATEVER THE INPUT: true; the input reads as it did. -/
def lzSymbolsSpec : ChangeSpec := { name := "lzSymbols", fn := fun _ => fun
  | [d] => { results := [.lit (.bool true)], args := [d] }
  | _ => none }
def lzSymbolsRow : OpenClaim := { program := "ytinmfkbppgjcpaa", sum := "b76b9c6a66aef0311025e1bb6c515985bbb9926db3a2d44b4218794be7392df3", func := "gatehouse/gatehouselaw04.LzSymbols", spec := "lzSymbols", unfollowed := true, recurses := true, plainKeys := false, apart := false }
def LzSymbolsSaid : Prop := lzSymbolsRow.holds Try.pinned (OpenSpec.ofChange lzSymbolsSpec)

/-- ITS FALSE NEIGHBOUR: 'it returns false'. Refute it at one input. -/
def lzSymbolsWrong : ChangeSpec := { name := "lzSymbols", fn := fun _ => fun
  | [d] => { results := [.lit (.bool false)], args := [d] }
  | _ => none }
def LzSymbolsWrongFalsely : Prop := lzSymbolsRow.holds Try.pinned (OpenSpec.ofChange lzSymbolsWrong)

/-- 'gatehouselaw04.LzCodes': WHATEVER THE INPUT: true; the input reads as it did. -/
def lzCodesSpec : ChangeSpec := { name := "lzCodes", fn := fun _ => fun
  | [d1, d2] => { results := [.lit (.bool true)], args := [d1, d2] }
  | _ => none }
def lzCodesRow : OpenClaim := { program := "ytinmfkbppgjcpaa", sum := "b76b9c6a66aef0311025e1bb6c515985bbb9926db3a2d44b4218794be7392df3", func := "gatehouse/gatehouselaw04.LzCodes", spec := "lzCodes", unfollowed := true, recurses := true, plainKeys := false, apart := false }
def LzCodesSaid : Prop := lzCodesRow.holds Try.pinned (OpenSpec.ofChange lzCodesSpec)

/-- ITS FALSE NEIGHBOUR: 'it returns false'. Refute it at one input. -/
def lzCodesWrong : ChangeSpec := { name := "lzCodes", fn := fun _ => fun
  | [d1, d2] => { results := [.lit (.bool false)], args := [d1, d2] }
  | _ => none }
def LzCodesWrongFalsely : Prop := lzCodesRow.holds Try.pinned (OpenSpec.ofChange lzCodesWrong)

/-- 'gatehouselaw04.LzExpands': WHATEVER THE INPUT: true; the input reads as it did. -/
def lzExpandsSpec : ChangeSpec := { name := "lzExpands", fn := fun _ => fun
  | [d1, d2] => { results := [.lit (.bool true)], args := [d1, d2] }
  | _ => none }
def lzExpandsRow : OpenClaim := { program := "ytinmfkbppgjcpaa", sum := "b76b9c6a66aef0311025e1bb6c515985bbb9926db3a2d44b4218794be7392df3", func := "gatehouse/gatehouselaw04.LzExpands", spec := "lzExpands", unfollowed := true, recurses := true, plainKeys := false, apart := false }
def LzExpandsSaid : Prop := lzExpandsRow.holds Try.pinned (OpenSpec.ofChange lzExpandsSpec)

/-- ITS FALSE NEIGHBOUR: 'it returns false'. Refute it at one input. -/
def lzExpandsWrong : ChangeSpec := { name := "lzExpands", fn := fun _ => fun
  | [d1, d2] => { results := [.lit (.bool false)], args := [d1, d2] }
  | _ => none }
def LzExpandsWrongFalsely : Prop := lzExpandsRow.holds Try.pinned (OpenSpec.ofChange lzExpandsWrong)

/-- 'gatehouselaw04.LzBack': WHATEVER THE INPUT: true; the input reads as it did. -/
def lzBackSpec : ChangeSpec := { name := "lzBack", fn := fun _ => fun
  | [d1, d2, d3] => { results := [.lit (.bool true)], args := [d1, d2, d3] }
  | _ => none }
def lzBackRow : OpenClaim := { program := "ytinmfkbppgjcpaa", sum := "b76b9c6a66aef0311025e1bb6c515985bbb9926db3a2d44b4218794be7392df3", func := "gatehouse/gatehouselaw04.LzBack", spec := "lzBack", unfollowed := true, recurses := true, plainKeys := false, apart := false }
def LzBackSaid : Prop := lzBackRow.holds Try.pinned (OpenSpec.ofChange lzBackSpec)

/-- ITS FALSE NEIGHBOUR: 'it returns false'. Refute it at one input. -/
def lzBackWrong : ChangeSpec := { name := "lzBack", fn := fun _ => fun
  | [d1, d2, d3] => { results := [.lit (.bool false)], args := [d1, d2, d3] }
  | _ => none }
def LzBackWrongFalsely : Prop := lzBackRow.holds Try.pinned (OpenSpec.ofChange lzBackWrong)

/- THE SECOND FORM. 'bulk': how many values and letters a reading holds, each counted each time it is reached (what is shared counts as often as it is met; a slice's spare places count too). A statement '..UptoSaid' is the law's where the arguments, and the package variables that the reading takes, are together of bulk at most 1048576: NARROWER than '..Said'. Prove '..Said' where nothing that the law and all that it calls make is longer than what came in: it says more and counts as full. Else prove '..UptoSaid'. A law counts once. -/
mutual
def uptoBulk {H : Type} : DataW H → Nat
  | .lit (.string bytes) => bytes.length + 1
  | .lit _ => 1
  | .nil => 1
  | .ptr d => uptoBulk d + 1
  | .slice elems spare => uptoBulkAll elems + uptoBulkAll spare + 1
  | .agg parts => uptoBulkAll parts + 1
  | .iface _ d => uptoBulk d + 1
  | .map entries => uptoBulkEntries entries + 1
  | .held _ => 1
def uptoBulkAll {H : Type} : List (DataW H) → Nat
  | [] => 0
  | d :: r => uptoBulk d + uptoBulkAll r
def uptoBulkEntries {H : Type} : List (Lit × DataW H) → Nat
  | [] => 0
  | x :: r => uptoBulkEntry x + uptoBulkEntries r
def uptoBulkEntry {H : Type} : Lit × DataW H → Nat
  | (.string bytes, d) => bytes.length + uptoBulk d + 1
  | (_, d) => uptoBulk d + 1
 end
def uptoSmall : (H : Type) → List (DataW H) → Bool := fun _ ds => decide (uptoBulkAll ds ≤ 1048576)
def OpenSpec.upto (s : _root_.Go.ChangeSpec) : _root_.Go.OpenSpec := { _root_.Go.OpenSpec.ofChange s with cond := some uptoSmall }

/-- 'gatehouselaw04.LzPieces', WHERE WHAT IT READS IS OF BULK AT MOST 1048576: true; the input reads as it did. -/
def lzPiecesUptoRow : OpenClaim := { program := "ytinmfkbppgjcpaa", sum := "b76b9c6a66aef0311025e1bb6c515985bbb9926db3a2d44b4218794be7392df3", func := "gatehouse/gatehouselaw04.LzPieces", spec := "lzPieces", unfollowed := true, recurses := true, plainKeys := false, apart := false, narrowed := true }
def LzPiecesUptoSaid : Prop := lzPiecesUptoRow.holds Try.pinned (OpenSpec.upto lzPiecesSpec)

/-- 'gatehouselaw04.LzGreedy', WHERE WHAT IT READS IS OF BULK AT MOST 1048576: true; the input reads as it did. -/
def lzGreedyUptoRow : OpenClaim := { program := "ytinmfkbppgjcpaa", sum := "b76b9c6a66aef0311025e1bb6c515985bbb9926db3a2d44b4218794be7392df3", func := "gatehouse/gatehouselaw04.LzGreedy", spec := "lzGreedy", unfollowed := true, recurses := true, plainKeys := false, apart := false, narrowed := true }
def LzGreedyUptoSaid : Prop := lzGreedyUptoRow.holds Try.pinned (OpenSpec.upto lzGreedySpec)

/-- 'gatehouselaw04.LzNone', WHERE WHAT IT READS IS OF BULK AT MOST 1048576: true; the input reads as it did. -/
def lzNoneUptoRow : OpenClaim := { program := "ytinmfkbppgjcpaa", sum := "b76b9c6a66aef0311025e1bb6c515985bbb9926db3a2d44b4218794be7392df3", func := "gatehouse/gatehouselaw04.LzNone", spec := "lzNone", unfollowed := true, recurses := true, plainKeys := false, apart := false, narrowed := true }
def LzNoneUptoSaid : Prop := lzNoneUptoRow.holds Try.pinned (OpenSpec.upto lzNoneSpec)

/-- 'gatehouselaw04.LzSymbols', WHERE WHAT IT READS IS OF BULK AT MOST 1048576: true; the input reads as it did. -/
def lzSymbolsUptoRow : OpenClaim := { program := "ytinmfkbppgjcpaa", sum := "b76b9c6a66aef0311025e1bb6c515985bbb9926db3a2d44b4218794be7392df3", func := "gatehouse/gatehouselaw04.LzSymbols", spec := "lzSymbols", unfollowed := true, recurses := true, plainKeys := false, apart := false, narrowed := true }
def LzSymbolsUptoSaid : Prop := lzSymbolsUptoRow.holds Try.pinned (OpenSpec.upto lzSymbolsSpec)

/-- 'gatehouselaw04.LzCodes', WHERE WHAT IT READS IS OF BULK AT MOST 1048576: true; the input reads as it did. -/
def lzCodesUptoRow : OpenClaim := { program := "ytinmfkbppgjcpaa", sum := "b76b9c6a66aef0311025e1bb6c515985bbb9926db3a2d44b4218794be7392df3", func := "gatehouse/gatehouselaw04.LzCodes", spec := "lzCodes", unfollowed := true, recurses := true, plainKeys := false, apart := false, narrowed := true }
def LzCodesUptoSaid : Prop := lzCodesUptoRow.holds Try.pinned (OpenSpec.upto lzCodesSpec)

/-- 'gatehouselaw04.LzExpands', WHERE WHAT IT READS IS OF BULK AT MOST 1048576: true; the input reads as it did. -/
def lzExpandsUptoRow : OpenClaim := { program := "ytinmfkbppgjcpaa", sum := "b76b9c6a66aef0311025e1bb6c515985bbb9926db3a2d44b4218794be7392df3", func := "gatehouse/gatehouselaw04.LzExpands", spec := "lzExpands", unfollowed := true, recurses := true, plainKeys := false, apart := false, narrowed := true }
def LzExpandsUptoSaid : Prop := lzExpandsUptoRow.holds Try.pinned (OpenSpec.upto lzExpandsSpec)

/-- 'gatehouselaw04.LzBack', WHERE WHAT IT READS IS OF BULK AT MOST 1048576: true; the input reads as it did. -/
def lzBackUptoRow : OpenClaim := { program := "ytinmfkbppgjcpaa", sum := "b76b9c6a66aef0311025e1bb6c515985bbb9926db3a2d44b4218794be7392df3", func := "gatehouse/gatehouselaw04.LzBack", spec := "lzBack", unfollowed := true, recurses := true, plainKeys := false, apart := false, narrowed := true }
def LzBackUptoSaid : Prop := lzBackUptoRow.holds Try.pinned (OpenSpec.upto lzBackSpec)

end Rows
end Go.Proofs.Ytinmfkbppgjcpaa
