/- The contracts of same, num. -/
import Derived.Test.YtinmfkbppgjcpaaRefp
set_option linter.unusedVariables false
namespace Go.Proofs.Ytinmfkbppgjcpaa.Lz
open Go.RowKit LzP

/-- a list of pieces in memory -/
def PcsAt (w : World) (a : Option Addr) (l : List (Int × Int × Int)) : Prop :=
  ∀ i p, l[i]? = some p → ∃ b off, a = some ⟨b, off, none⟩ ∧ b < w.heap.size ∧ w.cell? ⟨b, off + i * 3, none⟩ = some (.int .i64 p.1) ∧ w.cell? ⟨b, off + i * 3 + 1, none⟩ = some (.int .i64 p.2.1) ∧ w.cell? ⟨b, off + i * 3 + 2, none⟩ = some (.int .u8 p.2.2)

theorem PcsAt.below {w w' : World} {a : Option Addr} {l : List (Int × Int × Int)} (h : PcsAt w a l) (hb : Below w.heap.size w w') : PcsAt w' a l := fun i p hp => by
  obtain ⟨b, off, e, hl, h1, h2, h3⟩ := h i p hp
  exact ⟨b, off, e, Nat.lt_of_lt_of_le hl hb.size, (hb.cell (p := ⟨b, off + i * 3, none⟩) hl).trans h1, (hb.cell (p := ⟨b, off + i * 3 + 1, none⟩) hl).trans h2, (hb.cell (p := ⟨b, off + i * 3 + 2, none⟩) hl).trans h3⟩

theorem num_any (x : Int) (w : World) (h1 : -9223372036854775808 ≤ x) (h2 : x ≤ 9223372036854775807) : Calls Try.prog 14 #[.int .i64 x] w fun e w' => e = .returned (.int .i64 x) ∧ w = w' := by
  go_enter Try.func14, Try.ntmps14
  go_wp2
  go_ret
  exact ⟨rfl, rfl⟩

set_option maxHeartbeats 1000000 in
set_option maxRecDepth 100000 in
theorem same_true (a a' : Option Addr) (n cap cap' : Nat) (l : List (Int × Int × Int)) (w : World) (h : PcsAt w a l) (h' : PcsAt w a' l) (hl : l.length = n) (hn : n ≤ maxLen) :
    Calls Try.prog 13 #[.slice a n cap, .slice a' n cap'] w fun e w' => e = .returned (.bool true) ∧ ∃ q, w' = w.drewN q := by
  unfold maxLen at hn
  have H := Lib.hid h
  have H' := Lib.hid h'
  have HL := Lib.hid hl
  clear h h' hl
  go_enter Try.func13, Try.ntmps13
  go_wp2_with fail
  go_loopw [5] (fun i wr => ∃ k q : Nat, k ≤ n ∧ i = .int .i64 k ∧ wr = w.drewN q) (fun i _ => n - (intOf i).toNat)
  case atStart => exact ⟨0, 0, Nat.zero_le _, rfl, rfl⟩
  case round =>
    obtain ⟨k, q, hk, rfl, rfl⟩ := hrel
    by_cases hlt : k < n
    · obtain ⟨p, hp⟩ : ∃ p, l[k]? = some p := ⟨l[k]'(by have := HL.out; omega), List.getElem?_eq_getElem _⟩
      obtain ⟨b, off, rfl, _, c0, c1, c2⟩ := H.out k p hp
      obtain ⟨b', off', rfl, _, c0', c1', c2'⟩ := H'.out k p hp
      obtain ⟨p1, p2, p3⟩ := p
      dsimp only at c0 c1 c2 c0' c1' c2'
      clear hp
      go_wp2_with fail
      go_quiet (fail)
      go_wp2
      go_roundw
      case rel => exact ⟨k + 1, q + nq, by omega, by go_num, by simp⟩
      case measure => simp [intOf]; omega
    · obtain rfl : k = n := by omega
      go_wp2
      go_ret
      exact ⟨rfl, q, by simp⟩
end Go.Proofs.Ytinmfkbppgjcpaa.Lz
