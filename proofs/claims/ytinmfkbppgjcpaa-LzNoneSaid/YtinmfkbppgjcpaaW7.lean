/- LzCodes answers true. -/
import Derived.Test.YtinmfkbppgjcpaaKnw
set_option linter.unusedVariables false
namespace Go.Proofs.Ytinmfkbppgjcpaa.Lz
open Go.RowKit LzP Sy

theorem seek_spec (f : Int → Int × Int) (first n : Int) : ∀ c : Nat, (∃ m : Nat, m < c ∧ (f (first + m)).1 ≤ n) → ∃ m : Nat, m < c ∧ seek f first n c = (first + m, (f (first + m)).2, n - (f (first + m)).1) ∧ (f (first + m)).1 ≤ n ∧ ∀ j : Nat, m < j → j < c → n < (f (first + j)).1
  | 0, ⟨m, h, _⟩ => by omega
  | c + 1, ⟨m, h, hm⟩ => by
    by_cases hc : (f (first + c)).1 ≤ n
    · exact ⟨c, by omega, by unfold seek; rw [if_pos hc], hc, fun j h1 h2 => by omega⟩
    · obtain ⟨i, h1, h2, h3, h4⟩ := seek_spec f first n c ⟨m, by
        by_cases e : m = c
        · subst e; exact absurd hm hc
        · omega, hm⟩
      refine ⟨i, by omega, by unfold seek; rw [if_neg hc]; exact h2, h3, fun j g1 g2 => ?_⟩
      by_cases e : j = c
      · subst e; omega
      · exact h4 j g1 (by omega)

theorem bl_next : ∀ m : Nat, m < 28 → (bl (257 + ((m + 1 : Nat) : Int))).1 ≤ (bl (257 + m)).1 + 2 ^ (bl (257 + m)).2.toNat := by decide +kernel
theorem bl_bits : ∀ m : Nat, m < 29 → 0 ≤ (bl (257 + m)).2 ∧ (bl (257 + m)).2 ≤ 13 ∧ 3 ≤ (bl (257 + m)).1 ∧ (bl (257 + m)).1 ≤ 32768 := by decide +kernel
theorem bd_next : ∀ m : Nat, m < 29 → (bd (0 + ((m + 1 : Nat) : Int))).1 ≤ (bd (0 + m)).1 + 2 ^ (bd (0 + m)).2.toNat := by decide +kernel
theorem bd_bits : ∀ m : Nat, m < 30 → 0 ≤ (bd (0 + m)).2 ∧ (bd (0 + m)).2 ≤ 13 ∧ 1 ≤ (bd (0 + m)).1 ∧ (bd (0 + m)).1 ≤ 32768 := by decide +kernel

/-- what a code's parts are -/
structure Code8 (f : Int → Int × Int × Int) (g : Int → Int × Int) (top N a b c d k k2 k3 : Int) : Prop where
  code : f N = (a, b, c)
  base : g a = (d, b)
  sum : N = d + c
  low : 0 ≤ c
  high : c < 2 ^ b.toNat
  b0 : 0 ≤ b
  b1 : b ≤ 13
  d0 : 1 ≤ d
  d1 : d ≤ 32768
  next : f (min (N + 1) top) = (k, k2, k3)
  up : a ≤ k
  a0 : 0 ≤ a
  a1 : a ≤ 285

theorem len_code (N : Int) (h1 : 3 ≤ N) (h2 : N ≤ 258) : ∃ a b c d k k2 k3 : Int, Code8 lenOf bl 258 N a b c d k k2 k3 := by
  have h03 : (bl (257 + ((0 : Nat) : Int))).1 = 3 := by decide +kernel
  obtain ⟨m, hm, hs, hb, hn⟩ := seek_spec bl 257 N 29 ⟨0, by omega, by rw [h03]; exact h1⟩
  obtain ⟨m', hm', hs', hb', hn'⟩ := seek_spec bl 257 (min (N + 1) 258) 29 ⟨0, by omega, by rw [h03]; omega⟩
  have hbits := bl_bits m hm
  have hnext : m < 28 → N < (bl (257 + m)).1 + 2 ^ (bl (257 + m)).2.toNat := fun h => by
    have e1 := bl_next m h
    have e2 := hn (m + 1) (by omega) (by omega)
    exact Int.lt_of_lt_of_le e2 e1
  have hlast : m = 28 → (bl (257 + m)).1 = 258 ∧ (bl (257 + m)).2 = 0 := fun h => by subst h; decide +kernel
  have hup : ¬ m' < m := fun q => by
    have e := hn' m q hm
    have e2 : min (N + 1) 258 < N := Int.lt_of_lt_of_le e hb
    omega
  have hl : lenOf N = seek bl 257 N 29 := by unfold lenOf; rw [if_neg (by omega)]
  have hl' : lenOf (min (N + 1) 258) = seek bl 257 (min (N + 1) 258) 29 := by unfold lenOf; rw [if_neg (by omega)]
  rw [hs] at hl
  rw [hs'] at hl'
  obtain ⟨sy, hsy⟩ : ∃ sy : Int, sy = 257 + (m : Int) := ⟨_, rfl⟩
  obtain ⟨sk, hsk⟩ : ∃ sk : Int, sk = 257 + (m' : Int) := ⟨_, rfl⟩
  rw [← hsy] at hl hbits hnext hlast hb
  rw [← hsk] at hl'
  clear hs hs' hn hn' hb' h03
  obtain ⟨d, b, hv⟩ : ∃ d b, bl sy = (d, b) := ⟨_, _, rfl⟩
  rw [hv] at hl hbits hnext hlast hb
  dsimp only at hl hbits hnext hlast hb
  refine ⟨sy, b, N - d, d, sk, _, _, ⟨hl, hv, by omega, by omega, ?_, hbits.1, hbits.2.1, by omega, hbits.2.2.2, hl', by omega, by omega, by omega⟩⟩
  by_cases e : m = 28
  · obtain ⟨e1, e2⟩ := hlast e
    subst e1; subst e2
    have : (2 : Int) ^ (0 : Int).toNat = 1 := rfl
    omega
  · have := hnext (by omega)
    omega

theorem dist_code (N : Int) (h1 : 1 ≤ N) (h2 : N ≤ 32768) : ∃ a b c d k k2 k3 : Int, Code8 distOf bd 32768 N a b c d k k2 k3 := by
  obtain ⟨m, hm, hs, hb, hn⟩ := seek_spec bd 0 N 30 ⟨0, by omega, by have : (bd (0 + ((0 : Nat) : Int))).1 = 1 := (by decide +kernel); omega⟩
  obtain ⟨m', hm', hs', hb', hn'⟩ := seek_spec bd 0 (min (N + 1) 32768) 30 ⟨0, by omega, by have : (bd (0 + ((0 : Nat) : Int))).1 = 1 := (by decide +kernel); omega⟩
  have hbits := bd_bits m hm
  refine ⟨0 + m, (bd (0 + m)).2, N - (bd (0 + m)).1, (bd (0 + m)).1, 0 + m', (bd (0 + m')).2, min (N + 1) 32768 - (bd (0 + m')).1, ⟨?_, Prod.ext rfl rfl, by omega, by omega, ?_, hbits.1, hbits.2.1, by omega, hbits.2.2.2, ?_, ?_, by omega, by omega⟩⟩
  · unfold distOf; rw [if_neg (by omega)]; exact hs
  · by_cases e : m = 29
    · subst e
      have : (bd (0 + ((29 : Nat) : Int))).1 = 24577 := by decide +kernel
      have h0 : (bd (0 + ((29 : Nat) : Int))).2 = 13 := by decide +kernel
      rw [h0]
      have : (2 : Int) ^ (13 : Int).toNat = 8192 := rfl
      omega
    · have := bd_next m (by omega)
      have := hn (m + 1) (by omega) (by omega)
      omega
  · unfold distOf; rw [if_neg (by omega)]; exact hs'
  · have : ¬ m' < m := fun q => by have := hn' m q hm; omega
    omega

theorem wf64' {x : Int} (h : (Lit.int .i64 x).wf = true) : -9223372036854775808 ≤ x ∧ x ≤ 9223372036854775807 := by
  have h1 : IntKind.i64.min = -9223372036854775808 := rfl
  have h2 : IntKind.i64.max = 9223372036854775807 := rfl
  simp [Lit.wf, h1, h2] at h
  exact h

theorem wrap_in {x : Int} (h1 : -9223372036854775808 ≤ x) (h2 : x ≤ 9223372036854775807) : wrap64 x = x := by
  unfold wrap64; omega

theorem shl_in (b c : Int) (h1 : 0 ≤ b) (h2 : b ≤ 13) (h3 : c < 2 ^ b.toNat) : ∃ S : Int, wrap64 (2 ^ b.toNat) = S ∧ c < S := by
  refine ⟨_, rfl, ?_⟩
  have hp : ∀ k : Nat, k < 14 → wrap64 (2 ^ k) = 2 ^ k := by decide +kernel
  rw [hp b.toNat (by omega)]
  exact h3

theorem mod_in (n lo md : Int) (h0 : 0 ≤ lo) (h1 : lo ≤ 10) (h2 : 1 ≤ md) (h3 : md ≤ 100000) : ∃ N : Int, wrap64 (lo + (wrap64 (n.tmod md + md)).tmod md) = N ∧ lo ≤ N ∧ N ≤ lo + md - 1 := by
  have a1 := Int.tmod_lt_of_pos n (show 0 < md by omega)
  have a2 := Int.lt_tmod_of_pos n (show 0 < md by omega)
  rw [wrap_in (x := n.tmod md + md) (by omega) (by omega)]
  have b1 := Int.tmod_lt_of_pos (n.tmod md + md) (show 0 < md by omega)
  have b2 := Int.tmod_nonneg md (show 0 ≤ n.tmod md + md by omega)
  rw [wrap_in (by omega) (by omega)]
  exact ⟨_, rfl, by omega, by omega⟩

set_option maxHeartbeats 2000000 in
set_option maxRecDepth 100000 in
theorem walk7 (n m : Int) (w : World) (h1 : -9223372036854775808 ≤ n) (h2 : n ≤ 9223372036854775807) (h3 : -9223372036854775808 ≤ m) (h4 : m ≤ 9223372036854775807) : Calls Try.prog 7 #[.int .i64 n, .int .i64 m] w (fun e w' => e = .returned (.bool true) ∧ Below w.heap.size w w') := by
  obtain ⟨N, hN, hN1, hN2⟩ := mod_in n 3 256 (by omega) (by omega) (by omega) (by omega)
  obtain ⟨M, hM, hM1, hM2⟩ := mod_in m 1 32768 (by omega) (by omega) (by omega) (by omega)
  obtain ⟨a, b, c, d, k, k2, k3, hc⟩ := len_code N hN1 (by omega)
  obtain ⟨a', b', c', d', l, l2, l3, hc'⟩ := dist_code M hM1 (by omega)
  have C1 := fun w => len_any N w (by omega) (by omega)
  have C2 := fun w => blen_any a w (by have := hc.a0; omega) (by have := hc.a1; omega)
  have C3 := fun w => dist_any M w (by omega) (by omega)
  have C4 := fun w => bdist_any a' w (by have := hc'.a0; omega) (by have := hc'.a1; omega)
  have C5 := fun w => len_any (min (N + 1) 258) w (by omega) (by omega)
  have C6 := fun w => dist_any (min (M + 1) 32768) w (by omega) (by omega)
  simp only [hc.code, hc.base, hc'.code, hc'.base, hc.next, hc'.next] at C1 C2 C3 C4 C5 C6
  have H1 := Lib.hid C1
  have H2 := Lib.hid C2
  have H3 := Lib.hid C3
  have H4 := Lib.hid C4
  have H5 := Lib.hid C5
  have H6 := Lib.hid C6
  clear C1 C2 C3 C4 C5 C6
  have HC := Lib.hid hc
  have HC' := Lib.hid hc'
  clear hc hc'
  go_enter Try.func7, Try.ntmps7
  go_wp2_with fail
  refine (H1.out _).mono ?_
  rintro e w' ⟨rfl, rfl⟩
  go_wp2_with fail
  refine (H2.out _).mono ?_
  rintro e w' ⟨rfl, rfl⟩
  go_wp2_with fail
  refine (H3.out _).mono ?_
  rintro e w' ⟨rfl, rfl⟩
  go_wp2_with fail
  refine (H4.out _).mono ?_
  rintro e w' ⟨rfl, rfl⟩
  go_wp2_with fail
  refine (H5.out _).mono ?_
  rintro e w' ⟨rfl, rfl⟩
  go_wp2_with fail
  refine (H6.out _).mono ?_
  rintro e w' ⟨rfl, rfl⟩
  have e1 : (N == d + c) = true := by have := HC.out.sum; simp; omega
  have e2 : (M == d' + c') = true := by have := HC'.out.sum; simp; omega
  have w1 : IntKind.i64.wrap (d + c) = d + c := by have := HC.out.sum; rw [IntKind.wrap_i64]; omega
  have w2 : IntKind.i64.wrap (d' + c') = d' + c' := by have := HC'.out.sum; rw [IntKind.wrap_i64]; omega
  have g1 := HC.out.low
  have g5 := HC.out.b0
  have g6 := HC.out.b1
  have g1' := HC'.out.low
  have g5' := HC'.out.b0
  have g6' := HC'.out.b1
  have u1 := HC.out.up
  have u2 := HC'.out.up
  have g3 := HC.out.d0
  have g4 := HC.out.d1
  have g3' := HC'.out.d0
  have g4' := HC'.out.d1
  obtain ⟨S1, hS1, q1⟩ := shl_in b c HC.out.b0 HC.out.b1 HC.out.high
  obtain ⟨S2, hS2, q2⟩ := shl_in b' c' HC'.out.b0 HC'.out.b1 HC'.out.high
  clear HC HC' H1 H2 H3 H4 H5 H6
  go_wp2_with fail
  refine (knows_any _).mono ?_
  rintro e w' ⟨rfl, hb⟩
  have HB := Lib.hid hb
  clear hb
  go_wp2
  go_ret
  exact ⟨rfl, HB.out⟩
end Go.Proofs.Ytinmfkbppgjcpaa.Lz
