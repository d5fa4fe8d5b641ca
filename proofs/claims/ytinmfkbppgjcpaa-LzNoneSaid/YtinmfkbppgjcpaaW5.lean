/- LzNone answers true. -/
import Derived.Test.YtinmfkbppgjcpaaW5a
import Derived.Test.YtinmfkbppgjcpaaW5b
set_option linter.unusedVariables false
namespace Go.Proofs.Ytinmfkbppgjcpaa.Lz
open Go.RowKit LzP

theorem walk5 (a : Option Addr) (n cap : Nat) (g : Nat → Int) (c0 m : Int) (w : World) (h : Arg w a n cap g) (hc : (Lit.int .u8 c0).wf = true) :
    Calls Try.prog 5 #[.slice a n cap, .int .u8 c0, .int .i64 m] w (IsTrue w) := by
  have hb := wf8_inv hc
  by_cases hn : n ≤ 1048576
  · exact walk5_ok a n cap g c0 m w h hn hb.1 hb.2
  · exact walk5_bad a n cap g c0 m w h (by omega)
end Go.Proofs.Ytinmfkbppgjcpaa.Lz
