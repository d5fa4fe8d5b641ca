/- law14.Location: a location as the program has it. -/
import Derived.Test.YtlaoeciflifggaaMem
set_option linter.unusedVariables false
namespace Go.Proofs.Ytlaoeciflifggaa.Rt
open Go.RowKit
open Go.Lib hiding intOf

set_option maxHeartbeats 2000000 in
set_option maxRecDepth 100000 in
theorem ownLoc_any (l : Loc) (w : World) : Calls Try.prog 19 #[.agg (locVals l).toArray] w fun e w' => e = .returned (.agg (locVals l).toArray) ∧ Below w.heap.size w w' := by
  unfold locVals
  go_enter Try.func19, Try.ntmps19
  go_wp2
  exact bodyPost_ret (v := .agg #[.string l.pre, .int .i64 l.kind, .string l.root, .string l.index, .int .i64 l.gzip, .int .i64 l.expires, .string l.up, .bool l.cache, .int .i64 l.rate, .int .i64 l.burst, .int .i64 l.status, .string l.to]) (by simp [results, Try.results19, go_sem]) rfl ⟨rfl, ((Below.refl _ _).alloc (Nat.le_refl _) _).alloc (by simp) _⟩
end Go.Proofs.Ytlaoeciflifggaa.Rt
