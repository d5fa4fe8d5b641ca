/- The contract of the reference's BaseDistance. -/
import Derived.Test.YtinmfkbppgjcpaaSymb
set_option linter.unusedVariables false
namespace Go.Proofs.Ytinmfkbppgjcpaa.Sy
open Go.RowKit

theorem rbdist_low (s : Int) (w : World) (h1 : -9223372036854775808 ≤ s) (h2 : s ≤ 9223372036854775807) (hs : s < 4 ∨ 29 < s) : Calls Try.prog 24 #[.int .i64 s] w fun e w' => e = .returned (.tuple #[.int .i64 (bd s).1, .int .i64 (bd s).2]) ∧ w = w' := by
  have hd : s < 0 ∨ 29 < s ∨ (0 ≤ s ∧ s < 4) := by omega
  rcases hd with hd | hd | ⟨hd, hd'⟩
  · have hb : bd s = (0, 0) := by unfold bd; rw [if_pos (by omega)]
    rw [hb]
    go_enter Try.func24, Try.ntmps24
    go_wp2
    go_ret2
    exact ⟨rfl, rfl⟩
  · have hb : bd s = (0, 0) := by unfold bd; rw [if_pos (by omega)]
    rw [hb]
    go_enter Try.func24, Try.ntmps24
    go_wp2
    go_ret2
    exact ⟨rfl, rfl⟩
  · have hb : bd s = (s + 1, 0) := by unfold bd; rw [if_neg (by omega), if_pos (by omega)]
    rw [hb]
    clear hb hs
    go_enter Try.func24, Try.ntmps24
    go_wp2
    go_ret2
    exact ⟨rfl, rfl⟩

theorem bd_step : ∀ m : Nat, m < 25 → wrap64 ((bd (4 + m)).1 + wrap64 (2 ^ ((m + 2) / 2))) = (bd (4 + ((m + 1 : Nat) : Int))).1 := by decide +kernel

theorem rbdist_mid (k : Nat) (hk : k < 26) (w : World) : Calls Try.prog 24 #[.int .i64 (4 + k)] w fun e w' => e = .returned (.tuple #[.int .i64 (bd (4 + k)).1, .int .i64 (bd (4 + k)).2]) ∧ w = w' := by
  obtain ⟨sy, hsy⟩ : ∃ sy : Int, sy = 4 + (k : Int) := ⟨_, rfl⟩
  rw [← hsy]
  have hy1 : 4 ≤ sy := by omega
  have hy2 : sy < 30 := by omega
  have hb : bd sy = ((bd sy).1, (sy - 2) / 2) := by
    unfold bd; rw [if_neg (by omega), if_neg (by omega)]
    refine Prod.ext rfl ?_
    show sy / 2 - 1 = (sy - 2) / 2
    omega
  obtain ⟨v, hv⟩ : ∃ v, v = (bd sy).1 := ⟨_, rfl⟩
  rw [hb, ← hv]
  have HV := Lib.hid hv
  have HSY := Lib.hid hsy
  clear hb hv hsy
  go_enter Try.func24, Try.ntmps24
  go_wp2_with fail
  go_loop [5, 6] (fun b i => ∃ m : Nat, m ≤ k ∧ b = .int .i64 (bd (4 + m)).1 ∧ i = .int .i64 (4 + m)) (fun _ i => (30 - intOf i).toNat)
  case atStart => exact ⟨0, Nat.zero_le _, rfl, rfl⟩
  case round =>
    obtain ⟨m, hm, rfl, rfl⟩ := hrel
    obtain ⟨j, hj⟩ : ∃ j : Int, j = 4 + (m : Int) := ⟨_, rfl⟩
    rw [← hj]
    have hj1 : 4 ≤ j := by omega
    have hj2 : j ≤ sy := by have := HSY.out; omega
    obtain ⟨b, hb⟩ : ∃ b, b = (bd j).1 := ⟨_, rfl⟩
    rw [← hb]
    have HB := Lib.hid hb
    have HJ := Lib.hid hj
    clear hb hj
    by_cases hlt : j < sy
    · have hlt' : m < k := by have := HSY.out; have := HJ.out; omega
      have hst := Lib.hid (bd_step m (by omega))
      clear hm hlt'
      go_wp2
      go_round
      case rel =>
        have hJ := HJ.out
        have hS := HSY.out
        refine ⟨m + 1, by omega, ?_, by rw [show j + 1 = 4 + ((m + 1 : Nat) : Int) by omega]⟩
        rw [← hst.out, HB.out, show ((j - 2) / 2).toNat = (m + 2) / 2 by omega, hJ]
      case measure => simp [intOf]; omega
    · have hje : j = sy := by omega
      subst hje
      have he : b = v := by rw [HB.out, HV.out]
      subst he
      clear hm
      go_wp2
      go_ret2
      exact ⟨rfl, rfl⟩

theorem rbdist_any (s : Int) (w : World) (h1 : -9223372036854775808 ≤ s) (h2 : s ≤ 9223372036854775807) : Calls Try.prog 24 #[.int .i64 s] w fun e w' => e = .returned (.tuple #[.int .i64 (bd s).1, .int .i64 (bd s).2]) ∧ w = w' := by
  by_cases hs : s < 4 ∨ 29 < s
  · exact rbdist_low s w h1 h2 hs
  · obtain ⟨k, rfl⟩ : ∃ k : Nat, s = 4 + k := ⟨(s - 4).toNat, by omega⟩
    exact rbdist_mid k (by omega) w
end Go.Proofs.Ytinmfkbppgjcpaa.Sy
