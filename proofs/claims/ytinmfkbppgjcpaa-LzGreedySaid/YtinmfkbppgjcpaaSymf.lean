/- The contracts of the reference's Length and Distance. (Printed by wip/tools/gen_reflast.py.) -/
import Derived.Test.YtinmfkbppgjcpaaSymd
import Derived.Test.YtinmfkbppgjcpaaSyme
set_option linter.unusedVariables false
namespace Go.Proofs.Ytinmfkbppgjcpaa.Sy
open Go.RowKit

theorem seek_none {f : Int → Int × Int} {first n : Int} : ∀ c : Nat, (∀ m : Nat, m < c → n < (f (first + m)).1) → seek f first n c = (-1, 0, 0)
  | 0, _ => rfl
  | c + 1, h => by
    have := h c (by omega)
    show (if (f (first + c)).1 ≤ n then _ else seek f first n c) = _
    rw [if_neg (by omega)]
    exact seek_none c fun m hm => h m (by omega)

theorem bl_least : ∀ m : Nat, m < 29 → 3 ≤ (bl (257 + m)).1 ∧ (bl (257 + m)).1 ≤ 32768 := by decide +kernel

theorem rlen_any (n : Int) (w : World) (h1 : -9223372036854775808 ≤ n) (h2 : n ≤ 9223372036854775807) : Calls Try.prog 18 #[.int .i64 n] w fun e w' => e = .returned (.tuple #[.int .i64 (lenOf n).1, .int .i64 (lenOf n).2.1, .int .i64 (lenOf n).2.2]) ∧ w = w' := by
  by_cases hn : n < 3 ∨ 258 < n
  · have hf : lenOf n = (-1, 0, 0) := by
      unfold lenOf
      by_cases h : 258 < n
      · rw [if_pos h]
      · rw [if_neg h]
        exact seek_none 29 fun m hm => by have := bl_least m hm; omega
    rw [hf]
    clear hf
    rcases hn with hn | hn
    all_goals
      go_enter Try.func18, Try.ntmps18
      go_wp2
      go_ret3
      exact ⟨rfl, rfl⟩
  · have hf : lenOf n = seek bl 257 n 29 := by unfold lenOf; rw [if_neg (by omega)]
    rw [hf]
    clear hf
    have hn1 : 3 ≤ n := by omega
    have hn2 : n ≤ 258 := by omega
    clear hn
    obtain ⟨R, hR⟩ : ∃ R, R = seek bl 257 n 29 := ⟨_, rfl⟩
    rw [← hR]
    have HR := Lib.hid hR
    clear hR
    obtain ⟨v, hv⟩ : ∃ v, v = bl 285 := ⟨_, rfl⟩
    have H0 := rblen_any 285 w (by omega) (by omega)
    rw [← hv] at H0
    have HC0 := Lib.hid H0
    have HV0 := Lib.hid hv
    clear hv H0
    obtain ⟨vb, vk⟩ := v
    dsimp only at HC0
    go_enter Try.func18, Try.ntmps18
    go_wp2_with (go_at_call 22; refine HC0.out.mono ?_; rintro e w' ⟨rfl, rfl⟩)
    go_loop [5, 6, 7] (fun q x y => ∃ (m : Nat) (sy vb vk : Int), m < 29 ∧ sy = 257 + (m : Int) ∧ q = .int .i64 sy ∧ x = .int .i64 vb ∧ y = .int .i64 vk ∧ (vb, vk) = bl sy ∧ R = seek bl 257 n (m + 1)) (fun q _ _ => (intOf q + 1).toNat)
    case atStart => exact ⟨28, 285, vb, vk, by omega, rfl, rfl, rfl, rfl, HV0.out, HR.out⟩
    case round =>
      obtain ⟨m, sy, vb, vk, hm, hsy, rfl, rfl, rfl, hv, he⟩ := hrel
      clear HR HC0 HV0
      have hle := bl_least m hm
      have hst : seek bl 257 n (m + 1) = if (bl (257 + m)).1 ≤ n then (257 + (m : Int), (bl (257 + m)).2, n - (bl (257 + m)).1) else seek bl 257 n m := rfl
      rw [hst, ← hsy, ← hv] at he
      rw [← hsy, ← hv] at hle
      dsimp only at he hle
      obtain ⟨hle1, hle2⟩ := hle
      have HE := Lib.hid he
      have HSY := Lib.hid hsy
      have hy1 : 257 ≤ sy := by omega
      have hy2 : sy ≤ 285 := by omega
      have hz : n < vb → m ≠ 0 := by
        rintro hlt rfl
        have h0 : bl (257 + ((0 : Nat) : Int)) = (3, 0) := by decide +kernel
        rw [hsy, h0] at hv
        cases hv
        omega
      have HZ := Lib.hid hz
      clear hst he hsy hv hz
      by_cases hlt : n < vb
      · have hm0 := HZ.out hlt
        have HC := Lib.hid (rblen_any (sy - 1) w (by omega) (by omega))
        generalize hv1 : bl (sy - 1) = v1 at HC
        obtain ⟨b1, k1⟩ := v1
        have HV1 := Lib.hid hv1
        have HM := Lib.hid hm0
        have HLT := Lib.hid hlt
        dsimp only at HC
        clear hv1 hm0 hm
        go_wp2_with (go_at_call 22; refine HC.out.mono ?_; rintro e w' ⟨rfl, rfl⟩)
        go_round
        case rel =>
          have hS := HSY.out
          have hM := HM.out
          refine ⟨m - 1, sy - 1, b1, k1, by omega, by omega, rfl, rfl, rfl, HV1.out.symm, ?_⟩
          rw [HE.out, if_neg (by have := HLT.out; omega), show m - 1 + 1 = m by omega]
        case measure => simp [intOf]; omega
      · have HLT := Lib.hid hlt
        clear hm
        go_wp2
        go_ret3
        exact ⟨ret_three (by rw [HE.out, if_pos (by have := HLT.out; omega)]), rfl⟩

theorem bd_least : ∀ m : Nat, m < 30 → 1 ≤ (bd (0 + m)).1 ∧ (bd (0 + m)).1 ≤ 32768 := by decide +kernel

theorem rdist_any (n : Int) (w : World) (h1 : -9223372036854775808 ≤ n) (h2 : n ≤ 9223372036854775807) : Calls Try.prog 20 #[.int .i64 n] w fun e w' => e = .returned (.tuple #[.int .i64 (distOf n).1, .int .i64 (distOf n).2.1, .int .i64 (distOf n).2.2]) ∧ w = w' := by
  by_cases hn : n < 1 ∨ 32768 < n
  · have hf : distOf n = (-1, 0, 0) := by
      unfold distOf
      by_cases h : 32768 < n
      · rw [if_pos h]
      · rw [if_neg h]
        exact seek_none 30 fun m hm => by have := bd_least m hm; omega
    rw [hf]
    clear hf
    rcases hn with hn | hn
    all_goals
      go_enter Try.func20, Try.ntmps20
      go_wp2
      go_ret3
      exact ⟨rfl, rfl⟩
  · have hf : distOf n = seek bd 0 n 30 := by unfold distOf; rw [if_neg (by omega)]
    rw [hf]
    clear hf
    have hn1 : 1 ≤ n := by omega
    have hn2 : n ≤ 32768 := by omega
    clear hn
    obtain ⟨R, hR⟩ : ∃ R, R = seek bd 0 n 30 := ⟨_, rfl⟩
    rw [← hR]
    have HR := Lib.hid hR
    clear hR
    obtain ⟨v, hv⟩ : ∃ v, v = bd 29 := ⟨_, rfl⟩
    have H0 := rbdist_any 29 w (by omega) (by omega)
    rw [← hv] at H0
    have HC0 := Lib.hid H0
    have HV0 := Lib.hid hv
    clear hv H0
    obtain ⟨vb, vk⟩ := v
    dsimp only at HC0
    go_enter Try.func20, Try.ntmps20
    go_wp2_with (go_at_call 24; refine HC0.out.mono ?_; rintro e w' ⟨rfl, rfl⟩)
    go_loop [5, 6, 7] (fun q x y => ∃ (m : Nat) (sy vb vk : Int), m < 30 ∧ sy = 0 + (m : Int) ∧ q = .int .i64 sy ∧ x = .int .i64 vb ∧ y = .int .i64 vk ∧ (vb, vk) = bd sy ∧ R = seek bd 0 n (m + 1)) (fun q _ _ => (intOf q + 1).toNat)
    case atStart => exact ⟨29, 29, vb, vk, by omega, rfl, rfl, rfl, rfl, HV0.out, HR.out⟩
    case round =>
      obtain ⟨m, sy, vb, vk, hm, hsy, rfl, rfl, rfl, hv, he⟩ := hrel
      clear HR HC0 HV0
      have hle := bd_least m hm
      have hst : seek bd 0 n (m + 1) = if (bd (0 + m)).1 ≤ n then (0 + (m : Int), (bd (0 + m)).2, n - (bd (0 + m)).1) else seek bd 0 n m := rfl
      rw [hst, ← hsy, ← hv] at he
      rw [← hsy, ← hv] at hle
      dsimp only at he hle
      obtain ⟨hle1, hle2⟩ := hle
      have HE := Lib.hid he
      have HSY := Lib.hid hsy
      have hy1 : 0 ≤ sy := by omega
      have hy2 : sy ≤ 29 := by omega
      have hz : n < vb → m ≠ 0 := by
        rintro hlt rfl
        have h0 : bd (0 + ((0 : Nat) : Int)) = (1, 0) := by decide +kernel
        rw [hsy, h0] at hv
        cases hv
        omega
      have HZ := Lib.hid hz
      clear hst he hsy hv hz
      by_cases hlt : n < vb
      · have hm0 := HZ.out hlt
        have HC := Lib.hid (rbdist_any (sy - 1) w (by omega) (by omega))
        generalize hv1 : bd (sy - 1) = v1 at HC
        obtain ⟨b1, k1⟩ := v1
        have HV1 := Lib.hid hv1
        have HM := Lib.hid hm0
        have HLT := Lib.hid hlt
        dsimp only at HC
        clear hv1 hm0 hm
        go_wp2_with (go_at_call 24; refine HC.out.mono ?_; rintro e w' ⟨rfl, rfl⟩)
        go_round
        case rel =>
          have hS := HSY.out
          have hM := HM.out
          refine ⟨m - 1, sy - 1, b1, k1, by omega, by omega, rfl, rfl, rfl, HV1.out.symm, ?_⟩
          rw [HE.out, if_neg (by have := HLT.out; omega), show m - 1 + 1 = m by omega]
        case measure => simp [intOf]; omega
      · have HLT := Lib.hid hlt
        clear hm
        go_wp2
        go_ret3
        exact ⟨ret_three (by rw [HE.out, if_pos (by have := HLT.out; omega)]), rfl⟩

end Go.Proofs.Ytinmfkbppgjcpaa.Sy
