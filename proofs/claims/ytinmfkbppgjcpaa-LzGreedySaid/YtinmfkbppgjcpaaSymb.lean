/- The contracts of lz.last, lz.Length, lz.Distance. (Printed by wip/tools/gen_last.py.) -/
import Derived.Test.YtinmfkbppgjcpaaSym
import Derived.OwnWalk
set_option linter.unusedVariables false
namespace Go.Proofs.Ytinmfkbppgjcpaa.Sy
open Go.RowKit

/-- the last symbol below 'first + m' whose base is at most n -/
def seek (f : Int → Int × Int) (first n : Int) : Nat → Int × Int × Int
  | 0 => (-1, 0, 0)
  | m + 1 => if (f (first + m)).1 ≤ n then (first + m, (f (first + m)).2, n - (f (first + m)).1) else seek f first n m

theorem ret_three {a b c : Int} {x : Int × Int × Int} (h : x = (a, b, c)) : Ending.returned (.tuple #[.int .i64 a, .int .i64 b, .int .i64 c]) = .returned (.tuple #[.int .i64 x.1, .int .i64 x.2.1, .int .i64 x.2.2]) := by subst h; rfl

theorem bl_pos : ∀ m : Nat, m < 29 → 0 ≤ (bl (257 + m)).1 := by decide +kernel

theorem last_len (n : Int) (w : World) (h1 : -9223372036854775808 ≤ n) (h2 : n ≤ 258) : Calls Try.prog 30 #[.int .i64 n, .int .i64 257, .int .i64 285, .func (Fn.func 21) #[] #[]] w fun e w' => e = .returned (.tuple #[.int .i64 (seek bl 257 n 29).1, .int .i64 (seek bl 257 n 29).2.1, .int .i64 (seek bl 257 n 29).2.2]) ∧ w = w' := by
  obtain ⟨R, hR⟩ : ∃ R, R = seek bl 257 n 29 := ⟨_, rfl⟩
  rw [← hR]
  have HR := Lib.hid hR
  clear hR
  go_enter Try.func30, Try.ntmps30
  go_wp2_with fail
  go_loop [11] (fun q => ∃ m : Nat, m ≤ 29 ∧ q = .int .i64 (256 + m) ∧ R = seek bl 257 n m) (fun q => (intOf q + 1).toNat)
  case atStart => exact ⟨29, Nat.le_refl _, rfl, HR.out⟩
  case round =>
    obtain ⟨m, hm, rfl, he⟩ := hrel
    clear HR
    have HE := Lib.hid he
    clear he
    cases m with
    | zero =>
      go_wp2
      go_ret3
      exact ⟨ret_three HE.out, rfl⟩
    | succ m =>
      have hs : 256 + ((m + 1 : Nat) : Int) = 257 + (m : Int) := by omega
      rw [hs]
      clear hs
      have hp := bl_pos m (by omega)
      have hst : seek bl 257 n (m + 1) = if (bl (257 + m)).1 ≤ n then (257 + (m : Int), (bl (257 + m)).2, n - (bl (257 + m)).1) else seek bl 257 n m := rfl
      have HC := Lib.hid (blen_any (257 + m) w (by omega) (by omega))
      rw [hst] at HE
      clear hst
      obtain ⟨sy, hsy⟩ : ∃ sy : Int, sy = 257 + (m : Int) := ⟨_, rfl⟩
      rw [← hsy] at HE HC hp
      rw [← hsy]
      have hy1 : 257 ≤ sy := by omega
      have hy2 : sy ≤ 285 := by omega
      have HSY := Lib.hid hsy
      clear hsy hm
      generalize bl sy = v at HE HC hp
      obtain ⟨vb, vk⟩ := v
      dsimp only at HE HC hp
      by_cases hv : vb ≤ n
      · have hw : IntKind.i64.wrap (n - vb) = n - vb := by rw [IntKind.wrap_i64]; omega
        have HV := Lib.hid hv
        go_wp2_with (go_at_call 21; refine HC.out.mono ?_; rintro e w' ⟨rfl, rfl⟩)
        go_ret3
        exact ⟨ret_three (by rw [HE.out, if_pos HV.out]), rfl⟩
      · have HV := Lib.hid hv
        go_wp2_with (go_at_call 21; refine HC.out.mono ?_; rintro e w' ⟨rfl, rfl⟩)
        go_round
        case rel => exact ⟨m, by have := HSY.out; omega, by have := HSY.out; rw [show sy - 1 = 256 + (m : Int) by omega], by rw [HE.out, if_neg (by have := HV.out; omega)]⟩
        case measure => have := HSY.out; simp [intOf]; omega

def lenOf (n : Int) : Int × Int × Int := if 258 < n then (-1, 0, 0) else seek bl 257 n 29

theorem len_any (n : Int) (w : World) (h1 : -9223372036854775808 ≤ n) (h2 : n ≤ 9223372036854775807) : Calls Try.prog 17 #[.int .i64 n] w fun e w' => e = .returned (.tuple #[.int .i64 (lenOf n).1, .int .i64 (lenOf n).2.1, .int .i64 (lenOf n).2.2]) ∧ w = w' := by
  by_cases hn : 258 < n
  · have hf : lenOf n = (-1, 0, 0) := by unfold lenOf; rw [if_pos hn]
    rw [hf]
    go_enter Try.func17, Try.ntmps17
    go_wp2
    go_ret3
    exact ⟨rfl, rfl⟩
  · have hf : lenOf n = seek bl 257 n 29 := by unfold lenOf; rw [if_neg hn]
    rw [hf]
    have HC := Lib.hid (last_len n w h1 (by omega))
    generalize seek bl 257 n 29 = v at HC ⊢
    go_enter Try.func17, Try.ntmps17
    go_wp2_with (go_at_call 30; refine HC.out.mono ?_; rintro e w' ⟨rfl, rfl⟩)
    go_ret3
    exact ⟨rfl, rfl⟩

theorem bd_pos : ∀ m : Nat, m < 30 → 0 ≤ (bd (0 + m)).1 := by decide +kernel

theorem last_dist (n : Int) (w : World) (h1 : -9223372036854775808 ≤ n) (h2 : n ≤ 32768) : Calls Try.prog 30 #[.int .i64 n, .int .i64 0, .int .i64 29, .func (Fn.func 23) #[] #[]] w fun e w' => e = .returned (.tuple #[.int .i64 (seek bd 0 n 30).1, .int .i64 (seek bd 0 n 30).2.1, .int .i64 (seek bd 0 n 30).2.2]) ∧ w = w' := by
  obtain ⟨R, hR⟩ : ∃ R, R = seek bd 0 n 30 := ⟨_, rfl⟩
  rw [← hR]
  have HR := Lib.hid hR
  clear hR
  go_enter Try.func30, Try.ntmps30
  go_wp2_with fail
  go_loop [11] (fun q => ∃ m : Nat, m ≤ 30 ∧ q = .int .i64 (-1 + m) ∧ R = seek bd 0 n m) (fun q => (intOf q + 1).toNat)
  case atStart => exact ⟨30, Nat.le_refl _, rfl, HR.out⟩
  case round =>
    obtain ⟨m, hm, rfl, he⟩ := hrel
    clear HR
    have HE := Lib.hid he
    clear he
    cases m with
    | zero =>
      go_wp2
      go_ret3
      exact ⟨ret_three HE.out, rfl⟩
    | succ m =>
      have hs : -1 + ((m + 1 : Nat) : Int) = 0 + (m : Int) := by omega
      rw [hs]
      clear hs
      have hp := bd_pos m (by omega)
      have hst : seek bd 0 n (m + 1) = if (bd (0 + m)).1 ≤ n then (0 + (m : Int), (bd (0 + m)).2, n - (bd (0 + m)).1) else seek bd 0 n m := rfl
      have HC := Lib.hid (bdist_any (0 + m) w (by omega) (by omega))
      rw [hst] at HE
      clear hst
      obtain ⟨sy, hsy⟩ : ∃ sy : Int, sy = 0 + (m : Int) := ⟨_, rfl⟩
      rw [← hsy] at HE HC hp
      rw [← hsy]
      have hy1 : 0 ≤ sy := by omega
      have hy2 : sy ≤ 29 := by omega
      have HSY := Lib.hid hsy
      clear hsy hm
      generalize bd sy = v at HE HC hp
      obtain ⟨vb, vk⟩ := v
      dsimp only at HE HC hp
      by_cases hv : vb ≤ n
      · have hw : IntKind.i64.wrap (n - vb) = n - vb := by rw [IntKind.wrap_i64]; omega
        have HV := Lib.hid hv
        go_wp2_with (go_at_call 23; refine HC.out.mono ?_; rintro e w' ⟨rfl, rfl⟩)
        go_ret3
        exact ⟨ret_three (by rw [HE.out, if_pos HV.out]), rfl⟩
      · have HV := Lib.hid hv
        go_wp2_with (go_at_call 23; refine HC.out.mono ?_; rintro e w' ⟨rfl, rfl⟩)
        go_round
        case rel => exact ⟨m, by have := HSY.out; omega, by have := HSY.out; rw [show sy - 1 = -1 + (m : Int) by omega], by rw [HE.out, if_neg (by have := HV.out; omega)]⟩
        case measure => have := HSY.out; simp [intOf]; omega

def distOf (n : Int) : Int × Int × Int := if 32768 < n then (-1, 0, 0) else seek bd 0 n 30

theorem dist_any (n : Int) (w : World) (h1 : -9223372036854775808 ≤ n) (h2 : n ≤ 9223372036854775807) : Calls Try.prog 19 #[.int .i64 n] w fun e w' => e = .returned (.tuple #[.int .i64 (distOf n).1, .int .i64 (distOf n).2.1, .int .i64 (distOf n).2.2]) ∧ w = w' := by
  by_cases hn : 32768 < n
  · have hf : distOf n = (-1, 0, 0) := by unfold distOf; rw [if_pos hn]
    rw [hf]
    go_enter Try.func19, Try.ntmps19
    go_wp2
    go_ret3
    exact ⟨rfl, rfl⟩
  · have hf : distOf n = seek bd 0 n 30 := by unfold distOf; rw [if_neg hn]
    rw [hf]
    have HC := Lib.hid (last_dist n w h1 (by omega))
    generalize seek bd 0 n 30 = v at HC ⊢
    go_enter Try.func19, Try.ntmps19
    go_wp2_with (go_at_call 30; refine HC.out.mono ?_; rintro e w' ⟨rfl, rfl⟩)
    go_ret3
    exact ⟨rfl, rfl⟩

end Go.Proofs.Ytinmfkbppgjcpaa.Sy
