/- LimitsNil: no limiter, no gate, and those that nobody made. -/
import Derived.Test.YtmdallmbmjcdfaaKnow
import Derived.Test.YtmdallmbmjcdfaaGate
set_option linter.unusedVariables false
namespace Go.Proofs.Ytmdallmbmjcdfaa.Nl
open Go.RowKit Go.Proofs.Ytmdallmbmjcdfaa.Lm

/-- p is no limiter: nil, or one whose rate is nought -/
def NoLim (w : World) (p : Option Addr) : Prop := p = none ∨ ∃ b, p = some ⟨b, 0, none⟩ ∧ w.cell? ⟨b, 2, none⟩ = some (.int .i64 0)
def NoGate (w : World) (p : Option Addr) : Prop := p = none ∨ ∃ b, p = some ⟨b, 0, none⟩ ∧ w.cell? ⟨b, 0, none⟩ = some (.int .i64 0) ∧ w.cell? ⟨b, 2, none⟩ = some (.bool false)

theorem none_yes (p : Option Addr) (w : World) (h : NoLim w p) : Calls Try.prog 23 #[.pointer p] w fun e w' => e = .returned (.bool true) ∧ w = w' := by
  rcases h with rfl | ⟨b, rfl, h2⟩
  all_goals
    go_enter Try.func23, Try.ntmps23
    go_wp2
    go_ret
    exact ⟨rfl, rfl⟩

theorem allow_no (p : Option Addr) (k : ByteArray) (now : Int) (w : World) (h : NoLim w p) : Calls Try.prog 11 #[.pointer p, .string k, .int .i64 now] w fun e w' => e = .returned (.bool false) ∧ w = w' := by
  have H := Lib.hid h; clear h
  go_enter Try.func11, Try.ntmps11
  go_wp2_with (go_at_call 23; refine (none_yes p w H.out).mono ?_; rintro e w' ⟨rfl, rfl⟩)
  go_ret
  exact ⟨rfl, rfl⟩
theorem left_no (p : Option Addr) (k : ByteArray) (now : Int) (w : World) (h : NoLim w p) : Calls Try.prog 12 #[.pointer p, .string k, .int .i64 now] w fun e w' => e = .returned (.int .i64 0) ∧ w = w' := by
  have H := Lib.hid h; clear h
  go_enter Try.func12, Try.ntmps12
  go_wp2_with (go_at_call 23; refine (none_yes p w H.out).mono ?_; rintro e w' ⟨rfl, rfl⟩)
  go_ret
  exact ⟨rfl, rfl⟩
theorem keys_no (p : Option Addr) (w : World) (h : NoLim w p) : Calls Try.prog 22 #[.pointer p] w fun e w' => e = .returned (.int .i64 0) ∧ w = w' := by
  have H := Lib.hid h; clear h
  go_enter Try.func22, Try.ntmps22
  go_wp2_with (go_at_call 23; refine (none_yes p w H.out).mono ?_; rintro e w' ⟨rfl, rfl⟩)
  go_ret
  exact ⟨rfl, rfl⟩
theorem room_no (p : Option Addr) (w : World) (h : NoGate w p) : Calls Try.prog 29 #[.pointer p] w fun e w' => e = .returned (.int .i64 0) ∧ w = w' := by
  rcases h with rfl | ⟨b, rfl, h0, h2⟩
  all_goals
    go_enter Try.func29, Try.ntmps29
    go_wp2
    go_ret
    exact ⟨rfl, rfl⟩
theorem enter_no (p : Option Addr) (w : World) (h : NoGate w p) : Calls Try.prog 17 #[.pointer p] w fun e w' => e = .returned (.bool false) ∧ w = w' := by
  have H := Lib.hid h; clear h
  go_enter Try.func17, Try.ntmps17
  go_wp2_with (go_at_call 29; refine (room_no p w H.out).mono ?_; rintro e w' ⟨rfl, rfl⟩)
  go_ret
  exact ⟨rfl, rfl⟩
theorem leave_no (p : Option Addr) (w : World) (h : NoGate w p) : Calls Try.prog 19 #[.pointer p] w fun e w' => e = .returned (.int .i64 1) ∧ w = w' := by
  rcases h with rfl | ⟨b, rfl, h0, h2⟩
  all_goals
    go_enter Try.func19, Try.ntmps19
    go_wp2
    go_ret
    exact ⟨rfl, rfl⟩
theorem in_no (p : Option Addr) (w : World) (h : NoGate w p) : Calls Try.prog 21 #[.pointer p] w fun e w' => e = .returned (.int .i64 0) ∧ w = w' := by
  rcases h with rfl | ⟨b, rfl, h0, h2⟩
  all_goals
    go_enter Try.func21, Try.ntmps21
    go_wp2
    go_ret
    exact ⟨rfl, rfl⟩

theorem cell_fresh (w : World) (c : Array Value) (t : TypeId) (i : Nat) : (w.alloc (.cells c t)).cell? ⟨w.heap.size, i, none⟩ = c[i]? := by
  unfold World.cell?
  simp only [heap_alloc_new]
  rfl
theorem cell_fresh2 (w : World) (o : Obj) (c : Array Value) (t : TypeId) (i : Nat) : ((w.alloc o).alloc (.cells c t)).cell? ⟨w.heap.size + 1, i, none⟩ = c[i]? := by
  have := cell_fresh (w.alloc o) c t i
  rw [World.size_alloc] at this
  exact this

def Rel (w wr : World) (l g i : Value) : Prop :=
  Below w.heap.size w wr ∧ ∃ (n : Nat) (p q : Option Addr), n ≤ 2 ∧ i = .int .i64 n ∧ l = .pointer p ∧ g = .pointer q ∧ NoLim wr p ∧ NoGate wr q

set_option maxHeartbeats 1600000 in
theorem walk (k : ByteArray) (now : Int) (w : World) (wn : (Lit.int .i64 now).wf = true) :
    Calls Try.prog 7 #[.string k, .int .i64 now] w fun e w' => e = .returned (.bool true) ∧ Below w.heap.size w w' := by
  go_enter Try.func7, Try.ntmps7
  go_wp2
  go_loopw [5, 6, 7] (fun l g i wr => Rel w wr l g i) (fun _ _ i _ => 2 - (intOf i).toNat)
  case atStart => exact ⟨Below.refl _ _, 0, none, none, by omega, rfl, rfl, rfl, .inl rfl, .inl rfl⟩
  case round =>
    obtain ⟨hb, n, p, q, hn, rfl, rfl, rfl, hp, hq⟩ := hrel
    have HP := Lib.hid hp
    have HQ := Lib.hid hq
    have HB := Lib.hid hb
    clear hp hq hb
    by_cases hlt : n < 2
    · go_wp2_with (first | (go_at_call 11; refine (allow_no p k now wr HP.out).mono ?_; rintro e w' ⟨rfl, rfl⟩) | (go_at_call 12; refine (left_no p k now wr HP.out).mono ?_; rintro e w' ⟨rfl, rfl⟩) | (go_at_call 22; refine (keys_no p wr HP.out).mono ?_; rintro e w' ⟨rfl, rfl⟩) | (go_at_call 17; refine (enter_no q wr HQ.out).mono ?_; rintro e w' ⟨rfl, rfl⟩) | (go_at_call 19; refine (leave_no q wr HQ.out).mono ?_; rintro e w' ⟨rfl, rfl⟩) | (go_at_call 21; refine (in_no q wr HQ.out).mono ?_; rintro e w' ⟨rfl, rfl⟩) | (go_at_call 9; refine (num_any 1 wr (by omega) (by omega)).mono ?_; rintro e w' ⟨rfl, rfl⟩))
      go_roundw
      case rel => exact ⟨(HB.out.alloc HB.out.size _).alloc (by have := HB.out.size; simp; omega) _, n + 1, some ⟨wr.heap.size, 0, none⟩, some ⟨wr.heap.size + 1, 0, none⟩, by omega, by go_num, rfl, rfl,
        .inr ⟨_, rfl, cell_alloc (cell_fresh wr _ 56 2) _⟩, .inr ⟨_, rfl, cell_fresh2 wr _ _ 58 0, cell_fresh2 wr _ _ 58 2⟩⟩
      case measure => simp [intOf]; omega
    · go_wp2_with (go_at_call 10; refine (knows_any wr).mono ?_; rintro e w' ⟨rfl, hb'⟩; have HB' := Lib.hid hb'; clear hb')
      go_ret
      exact ⟨rfl, HB.out.trans (HB'.out.mono HB.out.size)⟩
end Go.Proofs.Ytmdallmbmjcdfaa.Nl
