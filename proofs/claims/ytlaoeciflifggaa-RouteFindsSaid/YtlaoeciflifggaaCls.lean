/- ascii.classes: an array of 256 numbers, the bit 4 at great letters alone. -/
import Derived.Test.YtlaoeciflifggaaPre
import Derived.Deep.OwnRows
import Derived.Deep.QuietTactic
import Derived.Deep.WholeRow
import Derived.BigQuiet
import Derived.Below
import Derived.Laws.Rows
import Derived.Lib.Bytealg
set_option linter.unusedVariables false
namespace Go.Proofs.Ytlaoeciflifggaa.Rt
open Go.RowKit
open Go.Lib hiding intOf

def zs : Array Value := Array.replicate 256 (.int .i64 0)
theorem zs_size : zs.size = 256 := by simp [zs]
theorem zero81 : (Try.prog.info? 81).map (fun i => (i.zero, i.size)) = some (some (.agg zs), 256) := by kernel_rfl
theorem under81 : Try.prog.underlying 81 = some (.array 256 3) := by kernel_rfl

set_option maxHeartbeats 1000000 in
theorem litIdx (s : ByteArray) (c : Int) (w : World) : Calls Try.prog 38 #[.string s, .int .u8 c] w fun e w' => e = .returned (.int .i64 (Lib.indexByte s.data.toList c.toNat.toUInt8)) ∧ w = w' := by
  go_enter Try.func38, Try.ntmps38
  go_wp2
  rw [run_callFunc_extern Try.func39 (by kernel_rfl) (by kernel_rfl) (by kernel_rfl) (e := Extern.BytealgIndexByte.indexByte) (by kernel_rfl), Lib.run_indexByteString]
  simp only [Result.andThen]
  rw [Oper.upon_value]
  go_wp2
  go_ret
  exact ⟨rfl, rfl⟩

theorem idx_any (s : ByteArray) (c : Int) (w : World) : Calls Try.prog 37 #[.string s, .int .u8 c] w fun e w' => e = .returned (.int .i64 (Lib.indexByte s.data.toList c.toNat.toUInt8)) ∧ w = w' := by
  go_enter Try.func37, Try.ntmps37
  go_wp2_with (go_at_call 38; refine (litIdx _ _ _).mono ?_; rintro e w' ⟨rfl, rfl⟩)
  go_ret
  exact ⟨rfl, rfl⟩

/-- what is known of the array when the first k have been settled -/
def Good (k : Nat) (F : Nat → Int) : Prop := ∀ i, (i < k → 0 ≤ F i ∧ F i < 8 ∧ (4 ≤ F i ↔ 65 ≤ i ∧ i ≤ 90)) ∧ (k ≤ i → F i = 0)

theorem good_zero : Good 0 (fun _ => 0) := fun i => ⟨fun h => by omega, fun _ => rfl⟩
def upd (F : Nat → Int) (k : Nat) (v : Int) : Nat → Int := fun i => if i = k then v else F i
theorem upd_upd (F : Nat → Int) (k : Nat) (a v : Int) : upd (upd F k a) k v = upd F k v := by
  funext i; unfold upd; by_cases e : i = k <;> simp [e]
theorem good_set {k : Nat} {F : Nat → Int} (h : Good k F) (v : Int) (h0 : 0 ≤ v) (h1 : v < 8) (h2 : 4 ≤ v ↔ 65 ≤ k ∧ k ≤ 90) : Good (k + 1) (upd F k v) := fun i => by
  unfold upd
  by_cases e : i = k
  · subst e
    simp only [if_pos]
    exact ⟨fun _ => ⟨h0, h1, h2⟩, fun h => by omega⟩
  · simp only [if_neg e]
    exact ⟨fun hi => (h i).1 (by omega), fun hi => (h i).2 (by omega)⟩
theorem good_keep {k : Nat} {F : Nat → Int} (h : Good k F) (h2 : ¬ (65 ≤ k ∧ k ≤ 90)) : Good (k + 1) F := fun i => by
  refine ⟨fun hi => ?_, fun hi => (h i).2 (by omega)⟩
  by_cases e : i = k
  · subst e
    rw [(h i).2 (Nat.le_refl _)]; omega
  · exact (h i).1 (by omega)

structure St (w wx : World) (F : Nat → Int) : Prop where
  row : wx.rowIs (w.heap.size + 1) 81 256 (fun i => .int .i64 (F i))
  out : wx.heap[w.heap.size]? = some (.cells zs 81 (0, 0))
  below : Below w.heap.size w wx

theorem St.set {w wx : World} {F : Nat → Int} (h : St w wx F) (k : Nat) (v : Int) : St w (wx.setCell ⟨w.heap.size + 1, k, none⟩ (.int .i64 v)) (upd F k v) :=
  ⟨(h.row.set k _).congr (fun i _ => by unfold upd; by_cases e : i = k <;> simp [e]), (heap_setCell_other _ _ _ _ (by simp)).trans h.out, h.below.setCell (by simp) _⟩

def arr (F : Nat → Int) : Array Value := ((List.range 256).map fun i => Value.int .i64 (F i)).toArray
theorem arr_size (F : Nat → Int) : (arr F).size = 256 := by simp [arr]

def Next (w wx : World) (k : Nat) : Prop := ∃ (k' : Nat) (F : Nat → Int), k' ≤ 256 ∧ Value.int .i64 ((k : Int) + 1) = .int .i64 k' ∧ Hid (Good k' F) ∧ St w wx F
theorem next0 {w wx : World} {F : Nat → Int} {k : Nat} (hk : k < 256) (hg : Good k F) (hst : St w wx F) (h2 : ¬ (65 ≤ k ∧ k ≤ 90)) : Next w wx k :=
  ⟨k + 1, _, hk, by go_num, Lib.hid (good_keep hg h2), hst⟩
theorem next1 {w wx : World} {F : Nat → Int} {k : Nat} (hk : k < 256) (hg : Good k F) (hst : St w wx F) (v : Int) (h0 : 0 ≤ v) (h1 : v < 8) (h2 : 4 ≤ v ↔ 65 ≤ k ∧ k ≤ 90) : Next w (wx.setCell ⟨w.heap.size + 1, k, none⟩ (.int .i64 v)) k :=
  ⟨k + 1, _, hk, by go_num, Lib.hid (good_set hg v h0 h1 h2), hst.set _ _⟩
theorem next2 {w wx : World} {F : Nat → Int} {k : Nat} (hk : k < 256) (hg : Good k F) (hst : St w wx F) (a v : Int) (h0 : 0 ≤ v) (h1 : v < 8) (h2 : 4 ≤ v ↔ 65 ≤ k ∧ k ≤ 90) : Next w ((wx.setCell ⟨w.heap.size + 1, k, none⟩ (.int .i64 a)).setCell ⟨w.heap.size + 1, k, none⟩ (.int .i64 v)) k :=
  ⟨k + 1, _, hk, by go_num, Lib.hid (good_set hg v h0 h1 h2), by rw [← upd_upd F k a]; exact (hst.set _ _).set _ _⟩
theorem next3 {w wx : World} {F : Nat → Int} {k : Nat} (hk : k < 256) (hg : Good k F) (hst : St w wx F) (a b v : Int) (h0 : 0 ≤ v) (h1 : v < 8) (h2 : 4 ≤ v ↔ 65 ≤ k ∧ k ≤ 90) : Next w (((wx.setCell ⟨w.heap.size + 1, k, none⟩ (.int .i64 a)).setCell ⟨w.heap.size + 1, k, none⟩ (.int .i64 b)).setCell ⟨w.heap.size + 1, k, none⟩ (.int .i64 v)) k :=
  ⟨k + 1, _, hk, by go_num, Lib.hid (good_set hg v h0 h1 h2), by rw [← upd_upd F k b, ← upd_upd F k a]; exact ((hst.set _ _).set _ _).set _ _⟩

theorem arr_of {w : World} {b : Nat} {F : Nat → Int} (h : w.rowIs b 81 256 (fun i => .int .i64 (F i))) : w.heap[b]? = some (.cells (arr F) 81 (0, 0)) := by
  obtain ⟨c, hb, hs, hc⟩ := h
  have : c = arr F := by
    apply Array.ext_getElem?
    intro i
    by_cases hi : i < 256
    · rw [hc i hi]; simp [arr, hi]
    · rw [Array.getElem?_eq_none (by omega), Array.getElem?_eq_none (by rw [arr_size]; omega)]
  rw [← this]; exact hb
theorem arr_one (F : Nat → Int) : (arr F).all (·.oneCell') = true := by
  rw [Array.all_eq_true_iff_forall_mem]
  intro v hv
  simp only [arr, List.mem_toArray, List.mem_map, List.mem_range] at hv
  obtain ⟨i, _, rfl⟩ := hv
  rfl

set_option maxHeartbeats 4000000 in
set_option maxRecDepth 100000 in
theorem classes_any (w : World) : Calls Try.prog 35 #[] w fun e w' => ∃ F : Nat → Int, Good 256 F ∧ e = .returned (.agg (arr F)) ∧ Below w.heap.size w w' := by
  obtain ⟨hz, hsz⟩ := zero_of_info zero81
  have hcells : (Value.agg zs).cells = zs := by rfl
  go_enter Try.func35, Try.ntmps35
  go_wp2_with fail
  have hrow0 : ((w.alloc (.cells zs 81)).alloc (.cells zs 81)).rowIs (w.heap.size + 1) 81 256 (fun i => .int .i64 0) := by
    have := World.rowIs_alloc (w.alloc (.cells zs 81)) zs 81 (fun _ => .int .i64 0) (fun i hi => by simp [zs] at hi ⊢; simp [hi])
    simpa [zs_size] using this
  have hout0 : ((w.alloc (.cells zs 81)).alloc (.cells zs 81)).heap[w.heap.size]? = some (.cells zs 81 (0, 0)) := heap_alloc2_old _ _ _
  have hb0 : Below w.heap.size w ((w.alloc (.cells zs 81)).alloc (.cells zs 81)) := ((Below.refl _ w).alloc (Nat.le_refl _) _).alloc (by simp) _
  generalize ((w.alloc (.cells zs 81)).alloc (.cells zs 81)) = w2 at hrow0 hout0 hb0 ⊢
  have HS : St w w2 (fun _ => 0) := ⟨hrow0, hout0, hb0⟩
  clear hrow0 hout0 hb0
  have o1 : bits BinOp.or IntKind.i64 0 1 = 1 := by rfl
  have o2 : bits BinOp.or IntKind.i64 0 2 = 2 := by rfl
  have o3 : bits BinOp.or IntKind.i64 1 2 = 3 := by rfl
  have o4 : bits BinOp.or IntKind.i64 3 4 = 7 := by rfl
  go_loopw [4] (fun v wx => ∃ (k : Nat) (F : Nat → Int), k ≤ 256 ∧ v = .int .i64 k ∧ Hid (Good k F) ∧ St w wx F) (fun v _ => 256 - (intOf v).toNat)
  case atStart => exact ⟨0, fun _ => 0, by omega, rfl, Lib.hid good_zero, HS⟩
  case round =>
    obtain ⟨k, F, hk, rfl, hg, hst⟩ := hrel
    by_cases hlt : k < 256
    · have c0 := hst.row.cell hlt
      have f0 := hst.row.frozen k
      rw [(hg.out k).2 (Nat.le_refl _)] at c0
      have hk2 : (k : Int) < 256 := by omega
      have hcases : (k < 9) ∨ (9 ≤ k ∧ k ≤ 9) ∨ (10 ≤ k ∧ k ≤ 31) ∨ (32 ≤ k ∧ k ≤ 32) ∨ (33 ≤ k ∧ k ≤ 47) ∨ (48 ≤ k ∧ k ≤ 57) ∨ (58 ≤ k ∧ k ≤ 64) ∨ (65 ≤ k ∧ k ≤ 90) ∨ (91 ≤ k ∧ k ≤ 96) ∨ (97 ≤ k ∧ k ≤ 122) ∨ (123 ≤ k ∧ k ≤ 126) ∨ (127 ≤ k ∧ k ≤ 127) ∨ (128 ≤ k) := by omega
      rcases hcases with hc | hc | hc | hc | hc | hc | hc | hc | hc | hc | hc | hc | hc
      all_goals first | (have e9 : ((k : Int) == 9) = false := by simp; omega) | (have e9 : ((k : Int) == 9) = true := by simp; omega)
      all_goals first | (have e127 : ((k : Int) != 127) = true := by simp; omega) | (have e127 : ((k : Int) != 127) = false := by simp; omega)
      all_goals
        go_wp2_with (go_at_call 37; refine (idx_any _ _ _).mono ?_; rintro e w' ⟨rfl, rfl⟩)
      all_goals
        go_roundw
        case rel =>
          first
          | exact next0 hlt hg.out hst (by omega)
          | exact next1 hlt hg.out hst _ (by omega) (by omega) (by omega)
          | exact next2 hlt hg.out hst _ _ (by omega) (by omega) (by omega)
          | exact next3 hlt hg.out hst _ _ _ (by omega) (by omega) (by omega)
        case measure => simp [intOf]; omega
    · obtain rfl : k = 256 := by omega
      have hb1 := arr_of hst.row
      have hb2 := hst.out
      have hbel := hst.below
      have hsz2 : (Try.prog.info? 81).map (·.size) = some (arr F).size := by rw [arr_size]; exact hsz
      have HG := Lib.hid hg.out
      clear hst hg HS
      go_wp2_with (first | (refine wpList_load_row rfl 81 _ rfl (w.heap.size + 1) rfl 81 (arr F) (0, 0) _ hb1 under81 rfl hsz2 ?_) | (refine wpList_store_row rfl 81 _ _ rfl w.heap.size (arr F) rfl rfl 81 zs hb2 hsz2 (by rw [zs_size, arr_size]) (arr_one F) ?_))
      have hb3 := setRow_heap wr w.heap.size zs (arr F) 81 (0, 0) hb2
      have hbel3 : Below w.heap.size w (wr.setRow w.heap.size (arr F)) := ⟨hbel.os, hbel.tape, hbel.output, by rw [setRow_size]; exact hbel.size, fun k hk => (setRow_other wr w.heap.size k (arr F) (by omega)).trans (hbel.block k hk)⟩
      generalize wr.setRow w.heap.size (arr F) = w3 at hb3 hbel3 ⊢
      go_wp2_with fail
      refine bodyPost_ret (v := .agg (arr F)) (results_cell_row Try.results35 _ _ w.heap.size 81 (arr F) (0, 0) _ rfl hb3 under81 rfl hsz2) rfl ⟨F, HG.out, rfl, hbel3⟩
end Go.Proofs.Ytlaoeciflifggaa.Rt
