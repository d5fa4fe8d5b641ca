/- The contracts of lz.BaseLength and lz.BaseDistance. -/
import Derived.Test.YtinmfkbppgjcpaaChecked
import Derived.WalkKit
import Derived.BigQuiet
import Derived.Lib.Hide
set_option linter.unusedVariables false
namespace Go.Proofs.Ytinmfkbppgjcpaa.Sy
open Go.RowKit

theorem ret_pair {a b c d : Int} (h : a = c ∧ b = d) : Ending.returned (.tuple #[.int .i64 a, .int .i64 b]) = .returned (.tuple #[.int .i64 c, .int .i64 d]) := by rw [h.1, h.2]

/-- a length's symbol: its base and its extra bits -/
def bl (s : Int) : Int × Int :=
  if s < 257 ∨ 285 < s then (0, 0) else if s = 285 then (258, 0) else if s < 265 then (s - 254, 0) else (3 + (4 + (s - 257) % 4) * 2 ^ ((s - 257) / 4 - 1).toNat, (s - 257) / 4 - 1)
/-- a distance's symbol: its base and its extra bits -/
def bd (s : Int) : Int × Int :=
  if s < 0 ∨ 29 < s then (0, 0) else if s < 4 then (s + 1, 0) else (1 + (2 + s % 2) * 2 ^ (s / 2 - 1).toNat, s / 2 - 1)

theorem bl_low : ∀ k : Nat, k < 8 → (k : Int) + 3 = (bl (257 + k)).1 ∧ (0 : Int) = (bl (257 + k)).2 := by decide +kernel
theorem bl_mid : ∀ k : Nat, k < 28 → 8 ≤ k → wrap64 (3 + wrap64 ((4 + (k : Int) % 4) * 2 ^ (k / 4 - 1))) = (bl (257 + k)).1 ∧ (k : Int) / 4 - 1 = (bl (257 + k)).2 := by decide +kernel
theorem bd_low : ∀ k : Nat, k < 4 → (k : Int) + 1 = (bd k).1 ∧ (0 : Int) = (bd k).2 := by decide +kernel
theorem bd_mid : ∀ k : Nat, k < 30 → 4 ≤ k → wrap64 (1 + wrap64 ((2 + (k : Int) % 2) * 2 ^ (k / 2 - 1))) = (bd k).1 ∧ (k : Int) / 2 - 1 = (bd k).2 := by decide +kernel

theorem blen_any (s : Int) (w : World) (h1 : -9223372036854775808 ≤ s) (h2 : s ≤ 9223372036854775807) : Calls Try.prog 21 #[.int .i64 s] w fun e w' => e = .returned (.tuple #[.int .i64 (bl s).1, .int .i64 (bl s).2]) ∧ w = w' := by
  by_cases ha : 257 ≤ s ∧ s ≤ 285
  · obtain ⟨k, hk, rfl⟩ : ∃ k : Nat, k < 29 ∧ s = 257 + k := ⟨(s - 257).toNat, by omega, by omega⟩
    clear ha h1 h2
    have hw : IntKind.i64.wrap (257 + (k : Int) - 257) = k := by rw [IntKind.wrap_i64]; omega
    have hd : k < 8 ∨ (8 ≤ k ∧ k < 28) ∨ k = 28 := by omega
    rcases hd with hd | ⟨hd, hd'⟩ | rfl
    · have hf := Lib.hid (bl_low k hd)
      have hne : ((k : Int) == 28) = false := by simp; omega
      go_enter Try.func21, Try.ntmps21
      go_wp2
      go_ret2
      exact ⟨ret_pair hf.out, rfl⟩
    · have hf := Lib.hid (bl_mid k hd' hd)
      have hne : ((k : Int) == 28) = false := by simp; omega
      go_enter Try.func21, Try.ntmps21
      go_wp2
      go_ret2
      exact ⟨ret_pair hf.out, rfl⟩
    · go_enter Try.func21, Try.ntmps21
      go_wp2
      go_ret2
      exact ⟨rfl, rfl⟩
  · have hb : bl s = (0, 0) := by unfold bl; rw [if_pos (by omega)]
    rw [hb]
    by_cases hs : s < -9223372036854775551
    · have hw : IntKind.i64.wrap (s - 257) = s - 257 + 18446744073709551616 := by rw [IntKind.wrap_i64]; omega
      go_enter Try.func21, Try.ntmps21
      go_wp2
      go_ret2
      exact ⟨rfl, rfl⟩
    · have hw : IntKind.i64.wrap (s - 257) = s - 257 := by rw [IntKind.wrap_i64]; omega
      have hd : s < 257 ∨ 285 < s := by omega
      rcases hd with hd | hd
      all_goals
        go_enter Try.func21, Try.ntmps21
        go_wp2
        go_ret2
        exact ⟨rfl, rfl⟩

theorem bdist_any (s : Int) (w : World) (h1 : -9223372036854775808 ≤ s) (h2 : s ≤ 9223372036854775807) : Calls Try.prog 23 #[.int .i64 s] w fun e w' => e = .returned (.tuple #[.int .i64 (bd s).1, .int .i64 (bd s).2]) ∧ w = w' := by
  by_cases ha : 0 ≤ s ∧ s ≤ 29
  · obtain ⟨k, rfl⟩ : ∃ k : Nat, s = k := ⟨s.toNat, by omega⟩
    have hk : k < 30 := by omega
    clear ha h1 h2
    have hd : k < 4 ∨ 4 ≤ k := by omega
    rcases hd with hd | hd
    · have hf := Lib.hid (bd_low k hd)
      go_enter Try.func23, Try.ntmps23
      go_wp2
      go_ret2
      exact ⟨ret_pair hf.out, rfl⟩
    · have hf := Lib.hid (bd_mid k hk hd)
      go_enter Try.func23, Try.ntmps23
      go_wp2
      go_ret2
      exact ⟨ret_pair hf.out, rfl⟩
  · have hb : bd s = (0, 0) := by unfold bd; rw [if_pos (by omega)]
    rw [hb]
    have hd : s < 0 ∨ 29 < s := by omega
    rcases hd with hd | hd
    all_goals
      go_enter Try.func23, Try.ntmps23
      go_wp2
      go_ret2
      exact ⟨rfl, rfl⟩
end Go.Proofs.Ytinmfkbppgjcpaa.Sy
