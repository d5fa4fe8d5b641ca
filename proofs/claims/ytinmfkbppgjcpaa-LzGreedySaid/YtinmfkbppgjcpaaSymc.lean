/- The contract of the reference's BaseLength. -/
import Derived.Test.YtinmfkbppgjcpaaSymb
set_option linter.unusedVariables false
namespace Go.Proofs.Ytinmfkbppgjcpaa.Sy
open Go.RowKit

theorem bl_low' : ∀ k : Nat, k < 8 → (257 + (k : Int)) - 254 = (bl (257 + k)).1 ∧ (0 : Int) = (bl (257 + k)).2 := by decide +kernel

theorem rblen_low (s : Int) (w : World) (h1 : -9223372036854775808 ≤ s) (h2 : s ≤ 9223372036854775807) (hs : s < 265 ∨ 285 ≤ s) : Calls Try.prog 22 #[.int .i64 s] w fun e w' => e = .returned (.tuple #[.int .i64 (bl s).1, .int .i64 (bl s).2]) ∧ w = w' := by
  have hd : s < 257 ∨ 285 < s ∨ s = 285 ∨ (257 ≤ s ∧ s < 265) := by omega
  rcases hd with hd | hd | rfl | ⟨hd, hd'⟩
  · have hb : bl s = (0, 0) := by unfold bl; rw [if_pos (by omega)]
    rw [hb]
    go_enter Try.func22, Try.ntmps22
    go_wp2
    go_ret2
    exact ⟨rfl, rfl⟩
  · have hb : bl s = (0, 0) := by unfold bl; rw [if_pos (by omega)]
    rw [hb]
    go_enter Try.func22, Try.ntmps22
    go_wp2
    go_ret2
    exact ⟨rfl, rfl⟩
  · go_enter Try.func22, Try.ntmps22
    go_wp2
    go_ret2
    exact ⟨rfl, rfl⟩
  · have hb : bl s = (s - 254, 0) := by unfold bl; rw [if_neg (by omega), if_neg (by omega), if_pos (by omega)]
    rw [hb]
    have hne : (s == 285) = false := by simp; omega
    clear hb hs
    go_enter Try.func22, Try.ntmps22
    go_wp2
    go_ret2
    exact ⟨rfl, rfl⟩
end Go.Proofs.Ytinmfkbppgjcpaa.Sy
