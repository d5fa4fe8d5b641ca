/- The contracts of the Gate's functions (layer 20): room, Enter, Leave, In of both texts. -/
import Derived.Test.YtmdallmbmjcdfaaChecked
import Derived.WalkKit
import Derived.WalkSpells
import Derived.WalkLawsBesides
import Derived.Deep.QuietTactic
import Derived.BigQuiet
import Derived.Deep.RegionWith
set_option linter.unusedVariables false
namespace Go.Proofs.Ytmdallmbmjcdfaa.Gt
open Go.RowKit

theorem room_made (b : Nat) (i m : Int) (w : World) (hi : 0 ≤ i) (him : i ≤ m) (hm : m ≤ 1000)
    (h0 : w.cell? ⟨b, 0, none⟩ = some (.int .i64 i)) (h1 : w.cell? ⟨b, 1, none⟩ = some (.int .i64 m)) (h2 : w.cell? ⟨b, 2, none⟩ = some (.bool true)) :
    Calls Try.prog 29 #[.pointer (some ⟨b, 0, none⟩)] w fun e w' => e = .returned (.int .i64 (m - i)) ∧ ∃ n, w' = w.drewN n := by
  go_enter Try.func29, Try.ntmps29
  go_wp2
  go_quiet (fail)
  go_wp2
  go_ret
  exact ⟨rfl, _, rfl⟩

theorem enter_full (b : Nat) (i m : Int) (w : World) (hi : 0 ≤ i) (him : i = m) (hm : m ≤ 1000)
    (h0 : w.cell? ⟨b, 0, none⟩ = some (.int .i64 i)) (h1 : w.cell? ⟨b, 1, none⟩ = some (.int .i64 m)) (h2 : w.cell? ⟨b, 2, none⟩ = some (.bool true)) :
    Calls Try.prog 17 #[.pointer (some ⟨b, 0, none⟩)] w fun e w' => e = .returned (.bool false) ∧ ∃ n, w' = w.drewN n := by
  subst him
  have hz : (i - i == 0) = true := by simp
  go_enter Try.func17, Try.ntmps17
  go_wp2_with (go_at_call 29; refine (room_made b i i _ hi (by omega) hm h0 h1 h2).mono ?_; rintro e w' ⟨rfl, n, rfl⟩)
  go_ret
  exact ⟨rfl, _, rfl⟩

theorem enter_room (b : Nat) (i m : Int) (w : World) (hi : 0 ≤ i) (him : i < m) (hm : m ≤ 1000)
    (h0 : w.cell? ⟨b, 0, none⟩ = some (.int .i64 i)) (h1 : w.cell? ⟨b, 1, none⟩ = some (.int .i64 m)) (h2 : w.cell? ⟨b, 2, none⟩ = some (.bool true))
    (hf : w.frozen? ⟨b, 0, none⟩ = false) :
    Calls Try.prog 17 #[.pointer (some ⟨b, 0, none⟩)] w fun e w' => e = .returned (.bool true) ∧ ∃ n, w' = (w.drewN n).setCell ⟨b, 0, none⟩ (.int .i64 (i + 1)) := by
  have hz : (m - i == 0) = false := by simp; omega
  go_enter Try.func17, Try.ntmps17
  go_wp2_with (go_at_call 29; refine (room_made b i m _ hi (by omega) hm h0 h1 h2).mono ?_; rintro e w' ⟨rfl, n, rfl⟩)
  go_ret
  exact ⟨rfl, _, rfl⟩

theorem refEnter_full (b : Nat) (i m : Int) (w : World) (hi : 0 ≤ i) (him : i = m) (hm : m ≤ 1000)
    (h0 : w.cell? ⟨b, 0, none⟩ = some (.int .i64 i)) (h1 : w.cell? ⟨b, 1, none⟩ = some (.int .i64 m)) :
    Calls Try.prog 18 #[.pointer (some ⟨b, 0, none⟩)] w fun e w' => e = .returned (.bool false) ∧ ∃ n, w' = w.drewN n := by
  subst him
  have hz : (i == i) = true := by simp
  go_enter Try.func18, Try.ntmps18
  go_wp2
  go_quiet (fail)
  go_wp2
  go_ret
  exact ⟨rfl, _, rfl⟩

theorem refEnter_room (b : Nat) (i m : Int) (w : World) (hi : 0 ≤ i) (him : i < m) (hm : m ≤ 1000)
    (h0 : w.cell? ⟨b, 0, none⟩ = some (.int .i64 i)) (h1 : w.cell? ⟨b, 1, none⟩ = some (.int .i64 m))
    (hf : w.frozen? ⟨b, 0, none⟩ = false) :
    Calls Try.prog 18 #[.pointer (some ⟨b, 0, none⟩)] w fun e w' => e = .returned (.bool true) ∧ ∃ n, w' = (w.drewN n).setCell ⟨b, 0, none⟩ (.int .i64 (i + 1)) := by
  have hz : (i == m) = false := by simp; omega
  go_enter Try.func18, Try.ntmps18
  go_wp2
  go_quiet (fail)
  go_wp2
  go_ret
  exact ⟨rfl, _, rfl⟩

theorem leave_none (b : Nat) (i m : Int) (w : World) (hi : i = 0)
    (h0 : w.cell? ⟨b, 0, none⟩ = some (.int .i64 i)) (h2 : w.cell? ⟨b, 2, none⟩ = some (.bool true)) :
    Calls Try.prog 19 #[.pointer (some ⟨b, 0, none⟩)] w fun e w' => e = .returned (.int .i64 3) ∧ w = w' := by
  subst hi
  go_enter Try.func19, Try.ntmps19
  go_wp2
  go_ret
  exact ⟨rfl, rfl⟩

theorem leave_some (b : Nat) (i m : Int) (w : World) (hi : 0 < i) (hm : i ≤ 1000)
    (h0 : w.cell? ⟨b, 0, none⟩ = some (.int .i64 i)) (h2 : w.cell? ⟨b, 2, none⟩ = some (.bool true))
    (hf : w.frozen? ⟨b, 0, none⟩ = false) :
    Calls Try.prog 19 #[.pointer (some ⟨b, 0, none⟩)] w fun e w' => e = .returned (.int .i64 0) ∧ w' = w.setCell ⟨b, 0, none⟩ (.int .i64 (i - 1)) := by
  have hz : (i == 0) = false := by simp; omega
  go_enter Try.func19, Try.ntmps19
  go_wp2
  go_ret
  exact ⟨rfl, rfl⟩

theorem refLeave_none (b : Nat) (i m : Int) (w : World) (hi : i = 0)
    (h0 : w.cell? ⟨b, 0, none⟩ = some (.int .i64 i))  :
    Calls Try.prog 20 #[.pointer (some ⟨b, 0, none⟩)] w fun e w' => e = .returned (.int .i64 3) ∧ w = w' := by
  subst hi
  go_enter Try.func20, Try.ntmps20
  go_wp2
  go_ret
  exact ⟨rfl, rfl⟩

theorem refLeave_some (b : Nat) (i m : Int) (w : World) (hi : 0 < i) (hm : i ≤ 1000)
    (h0 : w.cell? ⟨b, 0, none⟩ = some (.int .i64 i))
    (hf : w.frozen? ⟨b, 0, none⟩ = false) :
    Calls Try.prog 20 #[.pointer (some ⟨b, 0, none⟩)] w fun e w' => e = .returned (.int .i64 0) ∧ w' = w.setCell ⟨b, 0, none⟩ (.int .i64 (i - 1)) := by
  have hz : (i == 0) = false := by simp; omega
  go_enter Try.func20, Try.ntmps20
  go_wp2
  go_ret
  exact ⟨rfl, rfl⟩

theorem in_any (b : Nat) (i : Int) (w : World)
    (h0 : w.cell? ⟨b, 0, none⟩ = some (.int .i64 i)) :
    Calls Try.prog 21 #[.pointer (some ⟨b, 0, none⟩)] w fun e w' => e = .returned (.int .i64 i) ∧ w = w' := by
  go_enter Try.func21, Try.ntmps21
  go_wp2
  go_ret
  exact ⟨rfl, rfl⟩
end Go.Proofs.Ytmdallmbmjcdfaa.Gt
