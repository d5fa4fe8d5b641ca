/- LzNone answers true where the text is too long. -/
import Derived.Test.YtinmfkbppgjcpaaNoneP
import Derived.Test.YtinmfkbppgjcpaaW9
set_option linter.unusedVariables false
namespace Go.Proofs.Ytinmfkbppgjcpaa.Lz
open Go.RowKit LzP

set_option maxHeartbeats 1000000 in
set_option maxRecDepth 100000 in
theorem walk5_bad (a : Option Addr) (n cap : Nat) (g : Nat → Int) (c0 m : Int) (w : World) (h : Arg w a n cap g) (hn : 1048576 < n) :
    Calls Try.prog 5 #[.slice a n cap, .int .u8 c0, .int .i64 m] w (IsTrue w) := by
  have hml : n ≤ maxLen := by have := h.reach; unfold maxLen; omega
  have H := Lib.hid h
  have H11 := Lib.hid fun (gb c : Nat) (w : World) => pieces_long (some ⟨gb, 0, none⟩) n c 32768 0 w hml hn (by omega) (by omega) (by omega) (by omega)
  have hd : decide ((1048576 : Int) < (n : Int)) = true := by simp; omega
  clear h
  go_enter Try.func5, Try.ntmps5
  go_wp2_with (at_builtin; refine wpList_copy rfl _ _ rfl w.heap.size w.heap.size rfl (heap_alloc_new _ _) (Nat.le_refl _) a n cap g rfl ?t H.out.nil H.out.reach ?_)
  case t => exact H.out.txt.below ((Below.refl _ w).alloc (Nat.le_refl _) _)
  intro gb c w1 hown hb hc3 hc4
  have HB := Lib.hid (((Below.refl _ w).alloc (Nat.le_refl _) (.cells #[] 5)).trans hb)
  clear hown hb hc3 hc4
  go_wp2_with fail
  refine (H11.out gb c w1).mono ?_
  rintro e w2 ⟨rfl, rfl⟩
  go_wp2_with fail
  refine (num_any 6 _ (by omega) (by omega)).mono ?_
  rintro e w2 ⟨rfl, rfl⟩
  go_wp2_with fail
  refine (num_any 6 _ (by omega) (by omega)).mono ?_
  rintro e w2 ⟨rfl, rfl⟩
  go_wp2_with fail
  refine (knows_any _).mono ?_
  rintro e w4 ⟨rfl, hb4⟩
  have HB4 := Lib.hid (HB.out.trans (hb4.mono HB.out.size))
  clear hb4
  go_wp2
  go_ret
  exact ⟨rfl, HB4.out⟩
end Go.Proofs.Ytinmfkbppgjcpaa.Lz
