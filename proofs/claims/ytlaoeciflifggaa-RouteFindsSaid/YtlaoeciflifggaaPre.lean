/- strings.HasPrefix, strings.CutPrefix, begins. -/
import Derived.Test.YtlaoeciflifggaaChecked
import Derived.WalkKit
import Derived.Lib.Walk
import Derived.Lib.Hide
import Derived.Lib.Strings
import Derived.Lib.Slices
import Derived.Laws.Strings3
set_option linter.unusedVariables false
namespace Go.Proofs.Ytlaoeciflifggaa.Rt
open Go.RowKit Go.Lib

/-- does s begin with p? -/
def hp (s p : ByteArray) : Bool := Lib.hasPrefix s.data.toList p.data.toList

set_option maxHeartbeats 1000000 in
theorem lite_has (s p : ByteArray) (w : World) : Calls Try.prog 34 #[.string s, .string p] w fun e w' => e = .returned (.bool (hp s p)) ∧ w = w' := by
  unfold hp
  rw [← Lib.hasPrefix_of_take, ← Lib.size_eq, ← Lib.size_eq]
  go_enter Try.func34, Try.ntmps34
  go_wp2
  · rename_i h
    go_ret
    refine ⟨?_, rfl⟩
    show Ending.returned (Value.bool ((s.extract 0 p.size).toList == p.toList)) = _
    rw [Lib.extract_toList, Lib.toList_data]
    simp [h]
  · rename_i h
    go_ret
    refine ⟨?_, rfl⟩
    show Ending.returned (Value.bool false) = _
    simp [h]

set_option maxHeartbeats 1000000 in
theorem begins_any (s p : ByteArray) (w : World) : Calls Try.prog 17 #[.string s, .string p] w fun e w' => e = .returned (.bool (hp s p)) ∧ w = w' := by
  unfold hp
  rw [← Lib.hasPrefix_of_take, ← Lib.size_eq, ← Lib.size_eq]
  go_enter Try.func17, Try.ntmps17
  go_wp2
  · rename_i h
    go_ret
    refine ⟨?_, rfl⟩
    show Ending.returned (Value.bool ((s.extract 0 p.size).toList == p.toList)) = _
    rw [Lib.extract_toList, Lib.toList_data]
    simp [h]
  · rename_i h
    go_ret
    refine ⟨?_, rfl⟩
    show Ending.returned (Value.bool false) = _
    simp [h]

theorem has_any (s p : ByteArray) (w : World) : Calls Try.prog 28 #[.string s, .string p] w fun e w' => e = .returned (.bool (hp s p)) ∧ w = w' := by
  go_enter Try.func28, Try.ntmps28
  go_wp2_with (go_at_call 34; refine (lite_has _ _ _).mono ?_; rintro e w' ⟨rfl, rfl⟩)
  go_ret
  exact ⟨rfl, rfl⟩

/-- what is left of s behind a prefix of one byte -/
def rest1 (s : ByteArray) : ByteArray := s.extract 1 s.size

def star : ByteArray := { data := #[42] }
def dot : ByteArray := { data := #[46] }

theorem lite_cut_yes (s : ByteArray) (w : World) (h : hp s star = true) (hs : 1 ≤ s.size) : Calls Try.prog 36 #[.string s, .string { data := #[42] }] w fun e w' => e = .returned (.tuple #[.string (rest1 s), .bool true]) ∧ w = w' := by
  have h' : hp s { data := #[42] } = true := h
  have H := Lib.hid h'
  clear h h'
  go_enter Try.func36, Try.ntmps36
  go_wp2_with (go_at_call 34; refine (lite_has _ _ _).mono ?_; rintro e w' ⟨rfl, rfl⟩; rw [H.out])
  go_ret2
  exact ⟨rfl, rfl⟩

theorem lite_cut_no (s : ByteArray) (w : World) (h : hp s star = false) : Calls Try.prog 36 #[.string s, .string { data := #[42] }] w fun e w' => e = .returned (.tuple #[.string s, .bool false]) ∧ w = w' := by
  have h' : hp s { data := #[42] } = false := h
  have H := Lib.hid h'
  clear h h'
  go_enter Try.func36, Try.ntmps36
  go_wp2_with (go_at_call 34; refine (lite_has _ _ _).mono ?_; rintro e w' ⟨rfl, rfl⟩; rw [H.out])
  go_ret2
  exact ⟨rfl, rfl⟩

theorem cut_yes (s : ByteArray) (w : World) (h : hp s star = true) (hs : 1 ≤ s.size) : Calls Try.prog 32 #[.string s, .string { data := #[42] }] w fun e w' => e = .returned (.tuple #[.string (rest1 s), .bool true]) ∧ w = w' := by
  have H := Lib.hid h
  clear h
  go_enter Try.func32, Try.ntmps32
  go_wp2_with (go_at_call 36; refine (lite_cut_yes _ _ H.out hs).mono ?_; rintro e w' ⟨rfl, rfl⟩)
  go_ret2
  exact ⟨rfl, rfl⟩

theorem cut_no (s : ByteArray) (w : World) (h : hp s star = false) : Calls Try.prog 32 #[.string s, .string { data := #[42] }] w fun e w' => e = .returned (.tuple #[.string s, .bool false]) ∧ w = w' := by
  have H := Lib.hid h
  clear h
  go_enter Try.func32, Try.ntmps32
  go_wp2_with (go_at_call 36; refine (lite_cut_no _ _ H.out).mono ?_; rintro e w' ⟨rfl, rfl⟩)
  go_ret2
  exact ⟨rfl, rfl⟩
end Go.Proofs.Ytlaoeciflifggaa.Rt
