/- The contracts of the reference's Limiter: time, find, Left. -/
import Derived.Test.YtmdallmbmjcdfaaStar
import Derived.Test.YtmdallmbmjcdfaaRefP
set_option linter.unusedVariables false
namespace Go.Proofs.Ytmdallmbmjcdfaa.Rf
open Go.RowKit Go.Proofs.Ytmdallmbmjcdfaa.Lm

def c3 (e : Bk) : List Value := [.string e.1, .int .i64 e.2.1, .int .i64 e.2.2]
def row (l : List Bk) : List Value := l.flatMap c3

theorem row_length (l : List Bk) : (row l).length = l.length * 3 := by
  induction l with
  | nil => rfl
  | cons x l ih => simp only [row, List.flatMap_cons, List.length_append, List.length_cons] at *; rw [ih]; simp [c3]; omega

theorem row_at {l : List Bk} {i : Nat} {e : Bk} (h : l[i]? = some e) : (row l)[i * 3]? = some (.string e.1) ∧ (row l)[i * 3 + 1]? = some (.int .i64 e.2.1) ∧ (row l)[i * 3 + 2]? = some (.int .i64 e.2.2) := by
  induction l generalizing i with
  | nil => simp at h
  | cons x l ih =>
    cases i with
    | zero => simp at h; subst h; exact ⟨rfl, rfl, rfl⟩
    | succ i =>
      simp at h
      obtain ⟨h1, h2, h3⟩ := ih h
      simp only [row, List.flatMap_cons] at *
      have hc : (c3 x).length = 3 := rfl
      refine ⟨?_, ?_, ?_⟩
      · rw [List.getElem?_append_right (by omega), hc, show (i + 1) * 3 - 3 = i * 3 by omega]; exact h1
      · rw [List.getElem?_append_right (by omega), hc, show (i + 1) * 3 + 1 - 3 = i * 3 + 1 by omega]; exact h2
      · rw [List.getElem?_append_right (by omega), hc, show (i + 1) * 3 + 2 - 3 = i * 3 + 2 by omega]; exact h3

def RefW (w : World) (c : Nat) (sv : Value) (s : LS) : Prop :=
  w.heap[c]? = some (.cells #[.int .i64 s.rate, .int .i64 (s.full - s.rate), .int .i64 s.keys, .int .i64 s.now, sv] 67 (0, 0)) ∧ w.ownsRow 0 71 3 sv s.l.length (row s.l)

theorem cells5 {w : World} {b : Nat} {c0 c1 c2 c3 c4 : Value} {t : TypeId} (h : w.heap[b]? = some (.cells #[c0, c1, c2, c3, c4] t (0, 0))) :
    w.cell? ⟨b, 0, none⟩ = some c0 ∧ w.cell? ⟨b, 1, none⟩ = some c1 ∧ w.cell? ⟨b, 2, none⟩ = some c2 ∧ w.cell? ⟨b, 3, none⟩ = some c3 ∧ w.cell? ⟨b, 4, none⟩ = some c4 ∧
      (∀ o, w.frozen? ⟨b, o, none⟩ = false) ∧ b < w.heap.size := by
  refine ⟨by simp [World.cell?, h], by simp [World.cell?, h], by simp [World.cell?, h], by simp [World.cell?, h], by simp [World.cell?, h], fun o => by simp [World.frozen?, h], (Array.getElem?_eq_some_iff.1 h).1⟩

theorem RefW.elem {w : World} {c : Nat} {s : LS} {va : Option Addr} {vc : Nat} (h : RefW w c (.slice va s.l.length vc) s) {i : Nat} {e : Bk} (he : s.l[i]? = some e) :
    ∃ g, va = some ⟨g, 0, none⟩ ∧ w.cell? ⟨g, i * 3, none⟩ = some (.string e.1) ∧ w.cell? ⟨g, i * 3 + 1, none⟩ = some (.int .i64 e.2.1) ∧ w.cell? ⟨g, i * 3 + 2, none⟩ = some (.int .i64 e.2.2) := by
  obtain ⟨_, h1, h2⟩ := h
  have hil := (List.getElem?_eq_some_iff.1 he).1
  rcases h2 with ⟨_, h0⟩ | ⟨g, cap, cur, hv, _, hg, hc, _, hsz, htk⟩
  · omega
  · cases hv
    obtain ⟨a0, a1, a2⟩ := row_at he
    have hlt : i * 3 + 2 < s.l.length * 3 := by omega
    refine ⟨g, rfl, ?_, ?_, ?_⟩
    · rw [← htk, List.getElem?_take_of_lt (by omega)] at a0
      simp only [World.cell?, hg]; simpa using a0
    · rw [← htk, List.getElem?_take_of_lt (by omega)] at a1
      simp only [World.cell?, hg]; simpa using a1
    · rw [← htk, List.getElem?_take_of_lt (by omega)] at a2
      simp only [World.cell?, hg]; simpa using a2

theorem time_any (c : Nat) (t now : Int) (w : World) (h3 : w.cell? ⟨c, 3, none⟩ = some (.int .i64 t)) :
    Calls Try.prog 31 #[.pointer (some ⟨c, 0, none⟩), .int .i64 now] w fun e w' => e = .returned (.int .i64 (max t (min (max now 0) 1099511627776))) ∧ w = w' := by
  go_enter Try.func31, Try.ntmps31
  go_wp2
  go_ret
  exact ⟨rfl, rfl⟩

theorem find_none (c : Nat) (sv : Value) (s : LS) (k : ByteArray) (w : World) (hw : RefW w c sv s) (hs : Ok s) (hf : find s.l k = none) :
    Calls Try.prog 30 #[.pointer (some ⟨c, 0, none⟩), .string k] w fun e w' => e = .returned (.int .i64 (-1)) ∧ w = w' := by
  obtain ⟨va, vc, rfl⟩ := ownsRow_shape hw.2
  obtain ⟨d0, d1, d2, d3, d4, dr, dlt⟩ := cells5 hw.1
  have hlen : s.l.length ≤ 1000 := by have := hs.count; have := hs.keys2; omega
  have HW := Lib.hid hw
  have HF := Lib.hid hf
  clear hw hs hf
  go_enter Try.func30, Try.ntmps30
  go_wp2
  go_loop [5] (fun i => ∃ j : Nat, j ≤ s.l.length ∧ i = .int .i64 j) (fun i => s.l.length - (intOf i).toNat)
  case atStart => exact ⟨0, Nat.zero_le _, rfl⟩
  case round =>
    obtain ⟨j, hj, rfl⟩ := hrel
    by_cases hlt : j < s.l.length
    · obtain ⟨e, he⟩ : ∃ e, s.l[j]? = some e := ⟨s.l[j], List.getElem?_eq_getElem hlt⟩
      obtain ⟨g, rfl, e0, -, -⟩ := HW.out.elem he
      have hne : (e.1.toList == k.toList) = false := by
        have := Lm.find_none.1 HF.out e (List.mem_of_getElem? he)
        rw [← beq_toListBytes, ← Bool.not_eq_true, MapKept.bytes_beq]; exact this
      clear he
      go_wp2
      go_round
      case rel => exact ⟨j + 1, by omega, by go_num⟩
      case measure => simp [intOf]; omega
    · go_wp2
      go_ret
      exact ⟨rfl, rfl⟩

theorem find_some (c : Nat) (sv : Value) (s : LS) (k : ByteArray) (w : World) (hw : RefW w c sv s) (hs : Ok s) (i : Nat) (v : Int × Int) (hi : s.l[i]? = some (k, v)) (hb : ∀ j, j < i → ∀ x, s.l[j]? = some x → x.1 ≠ k) :
    Calls Try.prog 30 #[.pointer (some ⟨c, 0, none⟩), .string k] w fun e w' => e = .returned (.int .i64 i) ∧ w = w' := by
  obtain ⟨va, vc, rfl⟩ := ownsRow_shape hw.2
  obtain ⟨d0, d1, d2, d3, d4, dr, dlt⟩ := cells5 hw.1
  have hlen : s.l.length ≤ 1000 := by have := hs.count; have := hs.keys2; omega
  have hil := (List.getElem?_eq_some_iff.1 hi).1
  have HW := Lib.hid hw
  have HI := Lib.hid hi
  have HB := Lib.hid hb
  clear hw hs hi hb
  go_enter Try.func30, Try.ntmps30
  go_wp2
  go_loop [5] (fun q => ∃ j : Nat, j ≤ i ∧ q = .int .i64 j) (fun q => i - (intOf q).toNat)
  case atStart => exact ⟨0, Nat.zero_le _, rfl⟩
  case round =>
    obtain ⟨j, hj, rfl⟩ := hrel
    by_cases hlt : j < i
    · obtain ⟨e, he⟩ : ∃ e, s.l[j]? = some e := ⟨s.l[j], List.getElem?_eq_getElem (by omega)⟩
      obtain ⟨g, rfl, e0, -, -⟩ := HW.out.elem he
      have hne : (e.1.toList == k.toList) = false := by
        have := HB.out j hlt e he
        rw [← beq_toListBytes, ← Bool.not_eq_true, MapKept.bytes_beq]; exact this
      have hjl : j < s.l.length := by omega
      clear he
      go_wp2
      go_round
      case rel => exact ⟨j + 1, by omega, by go_num⟩
      case measure => simp [intOf]; omega
    · obtain rfl : j = i := by omega
      obtain ⟨g, rfl, e0, -, -⟩ := HW.out.elem HI.out
      go_wp2
      go_ret
      exact ⟨rfl, rfl⟩
end Go.Proofs.Ytmdallmbmjcdfaa.Rf
