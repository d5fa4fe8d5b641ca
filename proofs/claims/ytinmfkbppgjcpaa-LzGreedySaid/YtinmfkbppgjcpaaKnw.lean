/- knows answers true; LzPieces answers true. -/
import Derived.Test.YtinmfkbppgjcpaaPcs
import Derived.Lib.SlBytesConst
set_option linter.unusedVariables false
namespace Go.Proofs.Ytinmfkbppgjcpaa.Lz
open Go.RowKit LzP Sy

def gk (i : Nat) : Int := [97, 98, 99, 97, 98, 99, 97, 98, 99, 100].getD i 0
theorem gk_pieces : pieces gk 10 32768 16 = [(0, 0, 97), (0, 0, 98), (0, 0, 99), (6, 3, 0), (0, 0, 100)] := by decide +kernel
theorem gk_byte : ∀ i, i < 10 → 0 ≤ gk i ∧ gk i ≤ 255 := by decide +kernel
theorem len257 : lenOf 257 = (284, 5, 30) := by decide +kernel

theorem txt_gk (w : World) : Txt (w.alloc (.cells #[.int .u8 97, .int .u8 98, .int .u8 99, .int .u8 97, .int .u8 98, .int .u8 99, .int .u8 97, .int .u8 98, .int .u8 99, .int .u8 100] 5 (10, 11))) (some ⟨w.heap.size, 0, none⟩) 10 gk := by
  intro i hi
  refine ⟨w.heap.size, 0, rfl, by simp, ?_⟩
  have h := heap_alloc_new w (.cells #[.int .u8 97, .int .u8 98, .int .u8 99, .int .u8 97, .int .u8 98, .int .u8 99, .int .u8 97, .int .u8 98, .int .u8 99, .int .u8 100] 5 (10, 11))
  simp only [World.cell?, h]
  have : i = 0 ∨ i = 1 ∨ i = 2 ∨ i = 3 ∨ i = 4 ∨ i = 5 ∨ i = 6 ∨ i = 7 ∨ i = 8 ∨ i = 9 := by omega
  rcases this with rfl | rfl | rfl | rfl | rfl | rfl | rfl | rfl | rfl | rfl <;> rfl

set_option maxHeartbeats 1000000 in
set_option maxRecDepth 100000 in
theorem knows_any (w : World) : Calls Try.prog 16 #[] w fun e w' => e = .returned (.bool true) ∧ Below w.heap.size w w' := by
  have kc := fun (w : World) (C : Array Value) (n c : Nat) => Lib.run_convert_bytes_const (P := Try.prog) w 22 5 C n c Try.underlying22 Try.underlying5
  go_enter Try.func16, Try.ntmps16
  go_wp2_with fail
  clear kc
  have hP : Calls Try.prog 11 #[.slice (some ⟨w.heap.size, 0, none⟩) 10 10, .int .i64 32768, .int .i64 16] (w.alloc (.cells #[.int .u8 97, .int .u8 98, .int .u8 99, .int .u8 97, .int .u8 98, .int .u8 99, .int .u8 97, .int .u8 98, .int .u8 99, .int .u8 100] 5 (10, 11))) _ :=
    pieces_any _ 10 10 gk 32768 16 _ (txt_gk w) (by omega) (Nat.le_refl _) (by unfold maxLen; omega) (by omega) (by omega) (by omega) gk_byte
  rw [gk_pieces] at hP
  refine hP.mono ?_
  rintro e w1 ⟨sv, rfl, hown, hb⟩
  have hsz : (w.alloc (.cells #[.int .u8 97, .int .u8 98, .int .u8 99, .int .u8 97, .int .u8 98, .int .u8 99, .int .u8 97, .int .u8 98, .int .u8 99, .int .u8 100] 5 (10, 11))).heap.size = w.heap.size + 1 := World.size_alloc ..
  have HB := Lib.hid (((Below.refl _ w).alloc (Nat.le_refl _) _).trans (hb.mono (by rw [hsz]; omega)))
  obtain ⟨gb, c, rfl, h1, h2, -, -⟩ := own_some hown (by simp)
  have c9 := own_cell hown (j := 9) (u := .int .i64 6) rfl
  have c10 := own_cell hown (j := 10) (u := .int .i64 3) rfl
  have c14 := own_cell hown (j := 14) (u := .int .u8 100) rfl
  have hl : ([(0, 0, 97), (0, 0, 98), (0, 0, 99), (6, 3, 0), (0, 0, 100)] : List (Nat × Nat × Int)).length = 5 := rfl
  rw [hl]
  have hL := len_any 257 w1 (by omega) (by omega)
  rw [len257] at hL
  have HL := Lib.hid hL
  clear hP hown hb hsz hL hl h1 h2
  go_wp2_with (first | (go_at_call 17; refine HL.out.mono ?_; rintro e w' ⟨rfl, rfl⟩) | (go_at_call 14; refine (num_any 0 _ (by omega) (by omega)).mono ?_; rintro e w' ⟨rfl, rfl⟩))
  go_ret
  exact ⟨rfl, HB.out⟩
end Go.Proofs.Ytinmfkbppgjcpaa.Lz
