/- The contract of the reference's BaseLength. -/
import Derived.Test.YtinmfkbppgjcpaaSymc
set_option linter.unusedVariables false
namespace Go.Proofs.Ytinmfkbppgjcpaa.Sy
open Go.RowKit

theorem bl_step : ∀ m : Nat, m < 19 → wrap64 ((bl (265 + m)).1 + wrap64 (2 ^ ((m + 4) / 4))) = (bl (265 + ((m + 1 : Nat) : Int))).1 := by decide +kernel

theorem rblen_mid (k : Nat) (hk : k < 20) (w : World) : Calls Try.prog 22 #[.int .i64 (265 + k)] w fun e w' => e = .returned (.tuple #[.int .i64 (bl (265 + k)).1, .int .i64 (bl (265 + k)).2]) ∧ w = w' := by
  obtain ⟨sy, hsy⟩ : ∃ sy : Int, sy = 265 + (k : Int) := ⟨_, rfl⟩
  rw [← hsy]
  have hy1 : 265 ≤ sy := by omega
  have hy2 : sy < 285 := by omega
  have hb : bl sy = ((bl sy).1, (sy - 261) / 4) := by
    unfold bl; rw [if_neg (by omega), if_neg (by omega), if_neg (by omega)]
    refine Prod.ext rfl ?_
    show (sy - 257) / 4 - 1 = (sy - 261) / 4
    omega
  have hne : (sy == 285) = false := by simp; omega
  obtain ⟨v, hv⟩ : ∃ v, v = (bl sy).1 := ⟨_, rfl⟩
  rw [hb, ← hv]
  have HV := Lib.hid hv
  have HSY := Lib.hid hsy
  clear hb hv hsy
  go_enter Try.func22, Try.ntmps22
  go_wp2_with fail
  go_loop [5, 6] (fun b i => ∃ m : Nat, m ≤ k ∧ b = .int .i64 (bl (265 + m)).1 ∧ i = .int .i64 (265 + m)) (fun _ i => (285 - intOf i).toNat)
  case atStart => exact ⟨0, Nat.zero_le _, rfl, rfl⟩
  case round =>
    obtain ⟨m, hm, rfl, rfl⟩ := hrel
    obtain ⟨j, hj⟩ : ∃ j : Int, j = 265 + (m : Int) := ⟨_, rfl⟩
    rw [← hj]
    have hj1 : 265 ≤ j := by omega
    have hj2 : j ≤ sy := by have := HSY.out; omega
    obtain ⟨b, hb⟩ : ∃ b, b = (bl j).1 := ⟨_, rfl⟩
    rw [← hb]
    have HB := Lib.hid hb
    have HJ := Lib.hid hj
    clear hb hj
    by_cases hlt : j < sy
    · have hlt' : m < k := by have := HSY.out; have := HJ.out; omega
      have hst := Lib.hid (bl_step m (by omega))
      clear hm hlt'
      go_wp2
      go_round
      case rel =>
        have hJ := HJ.out
        have hS := HSY.out
        refine ⟨m + 1, by omega, ?_, by rw [show j + 1 = 265 + ((m + 1 : Nat) : Int) by omega]⟩
        rw [← hst.out, HB.out, show ((j - 261) / 4).toNat = (m + 4) / 4 by omega, hJ]
      case measure => simp [intOf]; omega
    · have hje : j = sy := by omega
      subst hje
      have he : b = v := by rw [HB.out, HV.out]
      subst he
      clear hm
      go_wp2
      go_ret2
      exact ⟨rfl, rfl⟩

theorem rblen_any (s : Int) (w : World) (h1 : -9223372036854775808 ≤ s) (h2 : s ≤ 9223372036854775807) : Calls Try.prog 22 #[.int .i64 s] w fun e w' => e = .returned (.tuple #[.int .i64 (bl s).1, .int .i64 (bl s).2]) ∧ w = w' := by
  by_cases hs : s < 265 ∨ 285 ≤ s
  · exact rblen_low s w h1 h2 hs
  · obtain ⟨k, rfl⟩ : ∃ k : Nat, s = 265 + k := ⟨(s - 265).toNat, by omega⟩
    exact rblen_mid k (by omega) w
end Go.Proofs.Ytinmfkbppgjcpaa.Sy
