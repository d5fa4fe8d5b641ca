/- LzSymbols answers true. -/
import Derived.Test.YtinmfkbppgjcpaaKnw
set_option linter.unusedVariables false
namespace Go.Proofs.Ytinmfkbppgjcpaa.Lz
open Go.RowKit LzP Sy

theorem wf64 {x : Int} (h : (Lit.int .i64 x).wf = true) : -9223372036854775808 ≤ x ∧ x ≤ 9223372036854775807 := by
  have h1 : IntKind.i64.min = -9223372036854775808 := rfl
  have h2 : IntKind.i64.max = 9223372036854775807 := rfl
  simp [Lit.wf, h1, h2] at h
  exact h

def IsTrue6 (w : World) (e : Ending) (w' : World) : Prop := e = .returned (.bool true) ∧ Below w.heap.size w w'

set_option maxHeartbeats 2000000 in
set_option maxRecDepth 100000 in
theorem walk6 (n : Int) (w : World) (h1 : -9223372036854775808 ≤ n) (h2 : n ≤ 9223372036854775807) : Calls Try.prog 6 #[.int .i64 n] w (IsTrue6 w) := by
  have C17 := len_any n w h1 h2
  have C18 := rlen_any n w h1 h2
  have C19 := dist_any n w h1 h2
  have C20 := rdist_any n w h1 h2
  have C21 := blen_any n w h1 h2
  have C22 := rblen_any n w h1 h2
  have C23 := bdist_any n w h1 h2
  have C24 := rbdist_any n w h1 h2
  generalize lenOf n = a at C17 C18
  generalize distOf n = b at C19 C20
  generalize bl n = c at C21 C22
  generalize bd n = d at C23 C24
  obtain ⟨a1, a2, a3⟩ := a
  obtain ⟨b1, b2, b3⟩ := b
  obtain ⟨c1, c2⟩ := c
  obtain ⟨d1, d2⟩ := d
  dsimp only at C17 C18 C19 C20 C21 C22 C23 C24
  have H17 := Lib.hid C17
  have H18 := Lib.hid C18
  have H19 := Lib.hid C19
  have H20 := Lib.hid C20
  have H21 := Lib.hid C21
  have H22 := Lib.hid C22
  have H23 := Lib.hid C23
  have H24 := Lib.hid C24
  clear C17 C18 C19 C20 C21 C22 C23 C24
  go_enter Try.func6, Try.ntmps6
  go_wp2_with fail
  refine H17.out.mono ?_
  rintro e w' ⟨rfl, rfl⟩
  go_wp2_with fail
  refine H18.out.mono ?_
  rintro e w' ⟨rfl, rfl⟩
  go_wp2_with fail
  refine H19.out.mono ?_
  rintro e w' ⟨rfl, rfl⟩
  go_wp2_with fail
  refine H20.out.mono ?_
  rintro e w' ⟨rfl, rfl⟩
  go_wp2_with fail
  refine H21.out.mono ?_
  rintro e w' ⟨rfl, rfl⟩
  go_wp2_with fail
  refine H22.out.mono ?_
  rintro e w' ⟨rfl, rfl⟩
  go_wp2_with fail
  refine H23.out.mono ?_
  rintro e w' ⟨rfl, rfl⟩
  go_wp2_with fail
  refine H24.out.mono ?_
  rintro e w' ⟨rfl, rfl⟩
  go_wp2_with fail
  refine (knows_any _).mono ?_
  rintro e w' ⟨rfl, hb⟩
  have HB := Lib.hid hb
  clear hb
  go_wp2
  go_ret
  exact ⟨rfl, HB.out⟩
end Go.Proofs.Ytinmfkbppgjcpaa.Lz
