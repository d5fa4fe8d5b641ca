/- The finder in memory; the contracts of its length and of the reference's alike. -/
import Derived.Test.YtinmfkbppgjcpaaSymf
import Derived.Test.YtinmfkbppgjcpaaLzP
import Derived.Test.YtinmfkbppgjcpaaFoot
import Derived.WalkSpells
import Derived.WalkLawsBesides
import Derived.Deep.QuietTactic
set_option linter.unusedVariables false
namespace Go.Proofs.Ytinmfkbppgjcpaa.Lz
open Go.RowKit LzP

theorem ret_int {k : IntKind} {a b : Int} (h : a = b) : Ending.returned (.int k a) = .returned (.int k b) := by rw [h]

/-- a text in memory: n bytes -/
def Txt (w : World) (a : Option Addr) (n : Nat) (g : Nat → Int) : Prop := ∀ i, i < n → ∃ b off, a = some ⟨b, off, none⟩ ∧ b < w.heap.size ∧ w.cell? ⟨b, off + i, none⟩ = some (.int .u8 (g i))

theorem Txt.pos {w : World} {a : Option Addr} {n : Nat} {g : Nat → Int} (h : Txt w a n g) (hn : 0 < n) : ∃ b off, a = some ⟨b, off, none⟩ ∧ b < w.heap.size ∧ ∀ i, i < n → w.cell? ⟨b, off + i, none⟩ = some (.int .u8 (g i)) := by
  obtain ⟨b, off, rfl, hb, _⟩ := h 0 hn
  refine ⟨b, off, rfl, hb, fun i hi => ?_⟩
  obtain ⟨b', off', e, _, hc⟩ := h i hi
  cases e; exact hc

theorem Txt.below {w w' : World} {a : Option Addr} {n : Nat} {g : Nat → Int} (h : Txt w a n g) (hb : Below w.heap.size w w') : Txt w' a n g := fun i hi => by
  obtain ⟨b, off, e, hl, hc⟩ := h i hi
  exact ⟨b, off, e, Nat.lt_of_lt_of_le hl hb.size, (hb.cell (p := ⟨b, off + i, none⟩) hl).trans hc⟩

set_option maxHeartbeats 1000000 in
set_option maxRecDepth 100000 in
theorem len_fin (fb : Nat) (a : Option Addr) (n cap : Nat) (g : Nat → Int) (i j : Nat) (w : World) (hf : w.cell? ⟨fb, 0, none⟩ = some (.slice a n cap)) (ht : Txt w a n g) (hn : n ≤ 1048576) (hij : i < j) (hj : j < n) :
    Calls Try.prog 32 #[.pointer (some ⟨fb, 0, none⟩), .int .i64 i, .int .i64 j] w fun e w' => e = .returned (.int .i64 (al g n i j)) ∧ ∃ q, w' = w.drewN q := by
  obtain ⟨b, off, rfl, hbl, hc⟩ := ht.pos (by omega)
  have hlim : min 258 (n - j) ≤ 258 := by omega
  have HC := Lib.hid hc
  clear hc ht
  go_enter Try.func32, Try.ntmps32
  go_wp2_with fail
  go_loopw [7] (fun v wr => ∃ k q : Nat, v = .int .i64 k ∧ k ≤ 258 ∧ k ≤ n - j ∧ Hid (∀ t, t < k → g (i + t) = g (j + t)) ∧ wr = w.drewN q) (fun v _ => 258 - (intOf v).toNat)
  case atStart => exact ⟨0, 0, rfl, by omega, by omega, Lib.hid (fun t ht => by omega), rfl⟩
  case round =>
    obtain ⟨k, q, rfl, hk, hkn, hg, rfl⟩ := hrel
    by_cases h1 : k < 258
    · have d1 : decide ((k : Int) < 258) = true := by simp; omega
      by_cases h2 : j + k < n
      · obtain ⟨x, hx⟩ : ∃ x, x = i + k := ⟨_, rfl⟩
        obtain ⟨y, hy⟩ : ∃ y, y = j + k := ⟨_, rfl⟩
        have c1 := HC.out x (by omega)
        have c2 := HC.out y (by omega)
        have hw1 : IntKind.i64.wrap ((j : Int) + k) = (y : Int) := by rw [IntKind.wrap_i64]; omega
        have hw2 : IntKind.i64.wrap ((i : Int) + k) = (x : Int) := by rw [IntKind.wrap_i64]; omega
        have hx1 : x < n := by omega
        have d2 : decide (y < n) = true := by simp; omega
        have hy1 : y < n := by omega
        have HXY := Lib.hid (And.intro hx hy)
        by_cases h3 : g x = g y
        · have hgt : Hid (∀ t, t < k + 1 → g (i + t) = g (j + t)) := fun t ht => by
            by_cases e : t = k
            · subst e; rw [← hx, ← hy]; exact h3
            · exact hg.out t (by omega)
          have e3 : (g x == g y) = true := by simp [h3]
          clear hg h3 hx hy
          go_wp2_with fail
          go_quiet (fail)
          go_wp2
          go_roundw
          case rel => exact ⟨k + 1, q + nq, by go_num, by omega, by have := HXY.out; omega, hgt, rfl⟩
          case measure => simp [intOf]; omega
        · have hfin := Lib.hid (run_spec g (min 258 (n - j)) i j k (by omega) hg.out (.inr (by rw [← hx, ← hy]; exact h3)))
          have e3 : (g x == g y) = false := by simp [h3]
          clear hg h3 hx hy
          go_wp2_with fail
          go_quiet (fail)
          go_wp2
          go_ret
          exact ⟨ret_int (by rw [show al g n i j = k from hfin.out]), q + nq, by simp⟩
      · have hfin := Lib.hid (run_spec g (min 258 (n - j)) i j k (by omega) hg.out (.inl (by omega)))
        obtain ⟨y, hy⟩ : ∃ y, y = j + k := ⟨_, rfl⟩
        have hw1 : IntKind.i64.wrap ((j : Int) + k) = (y : Int) := by rw [IntKind.wrap_i64]; omega
        have d2 : decide (y < n) = false := by simp; omega
        clear hg hy h2
        go_wp2_with fail
        go_quiet (fail)
        go_wp2
        go_ret
        exact ⟨ret_int (by rw [show al g n i j = k from hfin.out]), q + nq, by simp⟩
    · obtain rfl : k = 258 := by omega
      have hfin := Lib.hid (run_spec g (min 258 (n - j)) i j 258 (by omega) hg.out (.inl (by omega)))
      clear hg
      go_wp2_with fail
      go_quiet (fail)
      go_wp2
      go_ret
      exact ⟨ret_int (by rw [show al g n i j = 258 from hfin.out]), q + nq, by simp⟩
set_option maxHeartbeats 1000000 in
set_option maxRecDepth 100000 in
theorem ref_len (a : Option Addr) (n cap : Nat) (g : Nat → Int) (i j : Nat) (w : World) (ht : Txt w a n g) (hn : n ≤ 1048576) (hij : i < j) (hj : j < n) :
    Calls Try.prog 33 #[.slice a n cap, .int .i64 i, .int .i64 j] w fun e w' => e = .returned (.int .i64 (al g n i j)) ∧ ∃ q, w' = w.drewN q := by
  obtain ⟨b, off, rfl, hbl, hc⟩ := ht.pos (by omega)
  have hlim : min 258 (n - j) ≤ 258 := by omega
  have HC := Lib.hid hc
  clear hc ht
  go_enter Try.func33, Try.ntmps33
  go_wp2_with fail
  go_loopw [7] (fun v wr => ∃ k q : Nat, v = .int .i64 k ∧ k ≤ 258 ∧ k ≤ n - j ∧ Hid (∀ t, t < k → g (i + t) = g (j + t)) ∧ wr = w.drewN q) (fun v _ => 258 - (intOf v).toNat)
  case atStart => exact ⟨0, 0, rfl, by omega, by omega, Lib.hid (fun t ht => by omega), rfl⟩
  case round =>
    obtain ⟨k, q, rfl, hk, hkn, hg, rfl⟩ := hrel
    by_cases h1 : k < 258
    · have d1 : decide ((k : Int) < 258) = true := by simp; omega
      by_cases h2 : j + k < n
      · obtain ⟨x, hx⟩ : ∃ x, x = i + k := ⟨_, rfl⟩
        obtain ⟨y, hy⟩ : ∃ y, y = j + k := ⟨_, rfl⟩
        have c1 := HC.out x (by omega)
        have c2 := HC.out y (by omega)
        have hw1 : IntKind.i64.wrap ((j : Int) + k) = (y : Int) := by rw [IntKind.wrap_i64]; omega
        have hw2 : IntKind.i64.wrap ((i : Int) + k) = (x : Int) := by rw [IntKind.wrap_i64]; omega
        have hx1 : x < n := by omega
        have d2 : decide (y < n) = true := by simp; omega
        have hy1 : y < n := by omega
        have HXY := Lib.hid (And.intro hx hy)
        by_cases h3 : g x = g y
        · have hgt : Hid (∀ t, t < k + 1 → g (i + t) = g (j + t)) := fun t ht => by
            by_cases e : t = k
            · subst e; rw [← hx, ← hy]; exact h3
            · exact hg.out t (by omega)
          have e3 : (g x == g y) = true := by simp [h3]
          clear hg h3 hx hy
          go_wp2_with fail
          go_quiet (fail)
          go_wp2
          go_roundw
          case rel => exact ⟨k + 1, q + nq, by go_num, by omega, by have := HXY.out; omega, hgt, rfl⟩
          case measure => simp [intOf]; omega
        · have hfin := Lib.hid (run_spec g (min 258 (n - j)) i j k (by omega) hg.out (.inr (by rw [← hx, ← hy]; exact h3)))
          have e3 : (g x == g y) = false := by simp [h3]
          clear hg h3 hx hy
          go_wp2_with fail
          go_quiet (fail)
          go_wp2
          go_ret
          exact ⟨ret_int (by rw [show al g n i j = k from hfin.out]), q + nq, by simp⟩
      · have hfin := Lib.hid (run_spec g (min 258 (n - j)) i j k (by omega) hg.out (.inl (by omega)))
        obtain ⟨y, hy⟩ : ∃ y, y = j + k := ⟨_, rfl⟩
        have hw1 : IntKind.i64.wrap ((j : Int) + k) = (y : Int) := by rw [IntKind.wrap_i64]; omega
        have d2 : decide (y < n) = false := by simp; omega
        clear hg hy h2
        go_wp2_with fail
        go_quiet (fail)
        go_wp2
        go_ret
        exact ⟨ret_int (by rw [show al g n i j = k from hfin.out]), q + nq, by simp⟩
    · obtain rfl : k = 258 := by omega
      have hfin := Lib.hid (run_spec g (min 258 (n - j)) i j 258 (by omega) hg.out (.inl (by omega)))
      clear hg
      go_wp2_with fail
      go_quiet (fail)
      go_wp2
      go_ret
      exact ⟨ret_int (by rw [show al g n i j = 258 from hfin.out]), q + nq, by simp⟩
end Go.Proofs.Ytinmfkbppgjcpaa.Lz
