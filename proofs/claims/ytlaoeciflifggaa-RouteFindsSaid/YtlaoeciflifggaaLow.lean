/- ascii.Lower and the document's: a string's small letters. -/
import Derived.Test.YtlaoeciflifggaaCls
import Derived.Laws.BytesArg
import Derived.Laws.IdiomStrings
import Derived.Lib.SlBytesRow
set_option linter.unusedVariables false
namespace Go.Proofs.Ytlaoeciflifggaa.Rt
open Go.RowKit
open Go.Lib hiding intOf

def lowB (c : UInt8) : UInt8 := if 65 ≤ c.toNat ∧ c.toNat ≤ 90 then c + 32 else c
def low (s : ByteArray) : ByteArray := ⟨(s.data.toList.map lowB).toArray⟩

def gb (s : ByteArray) (i : Nat) : Int := ((s.data.toList.getD i 0).toNat : Int)
def lowI (x : Int) : Int := if 65 ≤ x ∧ x ≤ 90 then x + 32 else x
theorem gb_bd (s : ByteArray) (i : Nat) : 0 ≤ gb s i ∧ gb s i ≤ 255 := by
  unfold gb; have := UInt8.toNat_lt (s.data.toList.getD i 0); omega
theorem lowI_of (c : UInt8) : lowI (c.toNat : Int) = ((lowB c).toNat : Int) := by
  unfold lowI lowB
  have := UInt8.toNat_lt c
  by_cases h : 65 ≤ c.toNat ∧ c.toNat ≤ 90
  · rw [if_pos (by omega), if_pos h]
    simp [UInt8.toNat_add]; omega
  · rw [if_neg (by omega), if_neg h]

def lowNums (s : ByteArray) : List Int := (List.range s.size).map fun i => lowI (gb s i)
theorem lowNums_length (s : ByteArray) : (lowNums s).length = s.size := by simp [lowNums]
theorem lowNums_getD (s : ByteArray) (i : Nat) (h : i < s.size) : (lowNums s).getD i 0 = lowI (gb s i) := by simp [lowNums, List.getD, h]
theorem low_nums (s : ByteArray) : strOfNums (lowNums s) = low s := by
  apply ByteArray.ext
  apply Array.toList_inj.1
  rw [strOfNums_data]
  simp only [low, lowNums, List.map_map]
  apply List.ext_getElem?
  intro i
  by_cases h : i < s.size
  · have h' : i < s.data.toList.length := by simpa using h
    simp only [List.getElem?_map, List.getElem?_range h, Option.map_some, Function.comp, List.getElem?_eq_getElem h', gb, List.getD, Option.getD_some, lowI_of]
    simp
  · have h' : ¬ i < s.data.toList.length := by simpa using h
    rw [List.getElem?_eq_none (by simp; omega), List.getElem?_eq_none (by simp at h' ⊢; omega)]
theorem low_size (s : ByteArray) : (low s).size = s.size := by
  show (s.data.toList.map lowB).toArray.size = _
  simp

/-- a row of bytes that the conversion of a string made -/
def Buf (w : World) (b n : Nat) (f : Nat → Int) : Prop := ∃ c : Array Value, w.heap[b]? = some (.cells c 5 (c.size, c.size + 1)) ∧ n ≤ c.size ∧ ∀ i, i < n → c[i]? = some (.int .u8 (f i))

namespace Buf
variable {w : World} {b n : Nat} {f g : Nat → Int}
theorem cell (h : Buf w b n f) {i : Nat} (hi : i < n) : w.cell? ⟨b, i, none⟩ = some (.int .u8 (f i)) := by
  obtain ⟨c, hb, _, hc⟩ := h
  simp [World.cell?, hb, hc i hi]
theorem frozen (h : Buf w b n f) {i : Nat} (hi : i < n) : w.frozen? ⟨b, i, none⟩ = false := by
  obtain ⟨c, hb, hn, _⟩ := h
  simp [World.frozen?, hb]; omega
theorem lt (h : Buf w b n f) : b < w.heap.size := by
  obtain ⟨c, hb, _⟩ := h
  exact (Array.getElem?_eq_some_iff.1 hb).1
theorem congr (h : Buf w b n f) (e : ∀ i, i < n → f i = g i) : Buf w b n g := by
  obtain ⟨c, hb, hn, hc⟩ := h
  exact ⟨c, hb, hn, fun i hi => by rw [hc i hi, e i hi]⟩
theorem set (h : Buf w b n f) (i : Nat) (v : Int) : Buf (w.setCell ⟨b, i, none⟩ (.int .u8 v)) b n (fun j => if j = i then v else f j) := by
  obtain ⟨c, hb, hn, hc⟩ := h
  refine ⟨c.setIfInBounds i (.int .u8 v), ?_, by simpa using hn, fun j hj => ?_⟩
  · simp [World.setCell, Array.getElem?_modify, hb]
  · rw [Array.getElem?_setIfInBounds]
    by_cases e : j = i
    · subst e
      simp; omega
    · rw [if_neg (fun h => e h.symm)]
      simp only [if_neg e]
      exact hc j hj
theorem of_string (w : World) (s : ByteArray) (c : Nat) : Buf (w.alloc (.cells (bytesRow s c) 5 ((bytesRow s c).size, (bytesRow s c).size + 1))).drew w.heap.size s.size (gb s) := by
  refine ⟨_, heap_alloc_new _ _, by simp [bytesRow], fun i hi => ?_⟩
  have hi' : i < s.data.size := hi
  rw [bytesRow_at s c i hi']
  simp only [gb, List.getD, Array.getElem?_toList, Array.getElem?_eq_getElem hi', Option.getD_some]
theorem conv (h : Buf w b n f) {s : ByteArray} (hn : n = s.size) (hf : ∀ i, i < n → f i = lowI (gb s i)) (c : Nat) : (convert 83 9 (.slice (some ⟨b, 0, none⟩) n c)).run Try.prog w = .ok (.string (low s)) w := by
  rw [← low_nums]
  exact run_convert_bytes_arg w 83 5 Try.underlying83 Try.underlying5 b 0 n c (lowNums s) (by rw [lowNums_length, hn]) (fun i hi => by rw [Nat.zero_add, lowNums_getD s i (by omega), ← hf i hi]; exact h.cell hi) 9 Try.underlying9
end Buf

def LowTo (s : ByteArray) (k : Nat) : Nat → Int := fun i => if i < k then lowI (gb s i) else gb s i

theorem lowTo_keep (s : ByteArray) (k : Nat) (h : ¬ (65 ≤ gb s k ∧ gb s k ≤ 90)) : ∀ i, LowTo s k i = LowTo s (k + 1) i := fun i => by
  unfold LowTo
  by_cases e : i = k
  · subst e; rw [if_neg (by omega), if_pos (by omega)]; unfold lowI; rw [if_neg h]
  · by_cases h1 : i < k
    · rw [if_pos h1, if_pos (by omega)]
    · rw [if_neg h1, if_neg (by omega)]
theorem lowTo_set (s : ByteArray) (k : Nat) (h : 65 ≤ gb s k ∧ gb s k ≤ 90) : ∀ i, (if i = k then gb s k + 32 else LowTo s k i) = LowTo s (k + 1) i := fun i => by
  unfold LowTo
  by_cases e : i = k
  · subst e; rw [if_pos rfl, if_pos (by omega)]; unfold lowI; rw [if_pos h]
  · rw [if_neg e]
    by_cases h1 : i < k
    · rw [if_pos h1, if_pos (by omega)]
    · rw [if_neg h1, if_neg (by omega)]

theorem and_up {v : Int} (h : 4 ≤ v) (h' : v < 8) : bits BinOp.and IntKind.i64 v 4 = 4 := by
  have : v = 4 ∨ v = 5 ∨ v = 6 ∨ v = 7 := by omega
  rcases this with rfl | rfl | rfl | rfl <;> rfl
theorem and_no {v : Int} (h : 0 ≤ v) (h' : v < 4) : bits BinOp.and IntKind.i64 v 4 = 0 := by
  have : v = 0 ∨ v = 1 ∨ v = 2 ∨ v = 3 := by omega
  rcases this with rfl | rfl | rfl | rfl <;> rfl

theorem arr_get (F : Nat → Int) (i : Nat) (h : i < 256) : (arr F)[i]? = some (.int .i64 (F i)) := by simp [arr, h]

set_option maxHeartbeats 2000000 in
set_option maxRecDepth 100000 in
theorem lower_any (s : ByteArray) (w : World) (hs : s.size ≤ 9223372036854775807) : Calls Try.prog 31 #[.string s] w fun e w' => e = .returned (.string (low s)) ∧ Below w.heap.size w w' := by
  obtain ⟨hz, hsz⟩ := zero_of_info zero81
  have hcells : (Value.agg zs).cells = zs := by rfl
  go_enter Try.func31, Try.ntmps31
  go_wp2_with fail
  refine (classes_any _).mono ?_
  rintro e w1 ⟨F, hg, rfl, hb1⟩
  have HB1 := Lib.hid hb1
  have HG := Lib.hid hg
  clear hb1 hg
  have hsz2 : (Try.prog.info? 81).map (·.size) = some (arr F).size := by rw [arr_size]; exact hsz
  go_wp2_with (refine wpList_store_row rfl 81 _ _ rfl w1.heap.size (arr F) rfl rfl 81 zs (heap_alloc_new _ _) hsz2 (by rw [zs_size, arr_size]) (arr_one F) ?_)
  obtain ⟨w2, hw2⟩ : ∃ w2, w2 = (w1.alloc (.cells zs 81)).setRow w1.heap.size (arr F) := ⟨_, rfl⟩
  rw [← hw2]
  rw [World.setRow_alloc_new] at hw2
  have hrow : w2.heap[w1.heap.size]? = some (.cells (arr F) 81 (0, 0)) := by rw [hw2]; exact heap_alloc_new _ _
  have hbel2 : Below w.heap.size w w2 := by rw [hw2]; exact HB1.out.alloc HB1.out.size _
  have hs2 : w2.heap.size = w1.heap.size + 1 := by rw [hw2]; simp
  rw [run_bytes_of_string (P := Try.prog) w2 9 83 5 s Try.underlying9 Try.underlying83 Try.underlying5]
  simp only [Result.andThen]
  rw [Oper.upon_value]
  have hbuf := Buf.of_string w2 s (grownCap w2 s.size 0 5)
  have hbel3 : Below w.heap.size w (w2.alloc (.cells (bytesRow s (grownCap w2 s.size 0 5)) 5 ((bytesRow s (grownCap w2 s.size 0 5)).size, (bytesRow s (grownCap w2 s.size 0 5)).size + 1))).drew := (hbel2.alloc hbel2.size _).drew
  have hrow3 : (w2.alloc (.cells (bytesRow s (grownCap w2 s.size 0 5)) 5 ((bytesRow s (grownCap w2 s.size 0 5)).size, (bytesRow s (grownCap w2 s.size 0 5)).size + 1))).drew.heap[w1.heap.size]? = some (.cells (arr F) 81 (0, 0)) := (Below.heap_alloc w2 _ w1.heap.size (by omega)).trans hrow
  have hwd : ∀ o, w2.drew.alloc o = (w2.alloc o).drew := fun _ => rfl
  rw [hwd]
  generalize (w2.alloc (.cells (bytesRow s (grownCap w2 s.size 0 5)) 5 ((bytesRow s (grownCap w2 s.size 0 5)).size, (bytesRow s (grownCap w2 s.size 0 5)).size + 1))).drew = w3 at hbuf hbel3 hrow3 ⊢
  generalize grownCap w2 s.size 0 5 = cp
  have HBU := Lib.hid hbuf
  have HBE := Lib.hid hbel3
  have HRW := Lib.hid hrow3
  have hlt2 : w1.heap.size < w2.heap.size := by omega
  have hge2 : w.heap.size ≤ w2.heap.size := hbel2.size
  clear hbuf hbel3 hrow3 hrow hbel2 hw2 hwd hs2 hsz2 hsz hz hcells HB1
  go_wp2_with fail
  go_loopw [12] (fun v wr => ∃ k : Nat, k ≤ s.size ∧ v = .int .i64 k ∧ Hid (Buf wr w2.heap.size s.size (LowTo s k)) ∧ Hid (Below w.heap.size w wr) ∧ Hid (wr.heap[w1.heap.size]? = some (.cells (arr F) 81 (0, 0)))) (fun v _ => s.size - (intOf v).toNat)
  case atStart => exact ⟨0, Nat.zero_le _, rfl, Lib.hid (HBU.out.congr fun i _ => by simp [LowTo]), HBE, HRW⟩
  case round =>
    obtain ⟨k, hk, rfl, hbu, hbe, hrw⟩ := hrel
    by_cases hlt : k < s.size
    · have c0 := hbu.out.cell hlt
      have f0 := hbu.out.frozen hlt
      rw [show LowTo s k k = gb s k by simp [LowTo]] at c0
      have hbd := gb_bd s k
      obtain ⟨x, hx⟩ : ∃ x : Nat, gb s k = x := ⟨(gb s k).toNat, by omega⟩
      have hx256 : x < 256 := by omega
      have hq := (HG.out x).1 hx256
      have cx : wr.cell? ⟨w1.heap.size, x, none⟩ = some (.int .i64 (F x)) := by rw [cell_of_row _ _ x _ _ _ hrw.out]; exact arr_get F x hx256
      by_cases hup : 65 ≤ gb s k ∧ gb s k ≤ 90
      · have hset := Lib.hid (lowTo_set s k hup)
        have hand := and_up (v := F x) (by rw [hx] at hup; omega) hq.2.1
        have h1 := hup.1
        have h2 := hup.2
        rw [hx] at c0 hset h1 h2
        clear hup hq hbd hx
        generalize F x = fv at *
        go_wp2
        go_roundw
        case rel => exact ⟨k + 1, by omega, by go_num, Lib.hid ((hbu.out.set k ((x : Int) + 32)).congr fun i _ => hset.out i), Lib.hid (hbe.out.setCell hge2 _), Lib.hid ((heap_setCell_other _ _ _ _ (by simp; omega)).trans hrw.out)⟩
        case measure => simp [intOf]; omega
      · have hkeep := Lib.hid (lowTo_keep s k hup)
        have hand := and_no (v := F x) hq.1 (by rw [hx] at hup; omega)
        rw [hx] at c0
        clear hup hq hbd hx
        generalize F x = fv at *
        go_wp2
        go_roundw
        case rel => exact ⟨k + 1, by omega, by go_num, Lib.hid (hbu.out.congr fun i _ => hkeep.out i), hbe, hrw⟩
        case measure => simp [intOf]; omega
    · obtain rfl : k = s.size := by omega
      have hcv := hbu.out.conv rfl (fun i hi => by simp [LowTo, hi]) cp
      go_wp2
      go_ret
      exact ⟨rfl, hbe.out⟩

set_option maxHeartbeats 1000000 in
set_option maxRecDepth 100000 in
theorem refLower_any (s : ByteArray) (w : World) (hs : s.size ≤ 9223372036854775807) : Calls Try.prog 33 #[.string s] w fun e w' => e = .returned (.string (low s)) ∧ Below w.heap.size w w' := by
  have hc := fun w => run_bytes_of_string (P := Try.prog) w 9 83 5 s Try.underlying9 Try.underlying83 Try.underlying5
  go_enter Try.func33, Try.ntmps33
  go_wp2_with fail
  clear hc
  have hbuf := Buf.of_string w s (grownCap w s.size 0 5)
  have hbel : Below w.heap.size w (w.alloc (.cells (bytesRow s (grownCap w s.size 0 5)) 5 ((bytesRow s (grownCap w s.size 0 5)).size, (bytesRow s (grownCap w s.size 0 5)).size + 1))).drew := ((Below.refl _ w).alloc (Nat.le_refl _) _).drew
  generalize (w.alloc (.cells (bytesRow s (grownCap w s.size 0 5)) 5 ((bytesRow s (grownCap w s.size 0 5)).size, (bytesRow s (grownCap w s.size 0 5)).size + 1))).drew = w1 at hbuf hbel ⊢
  generalize grownCap w s.size 0 5 = cp
  have HBU := Lib.hid hbuf
  have HBE := Lib.hid hbel
  clear hbuf hbel
  go_loopw [4] (fun v wr => ∃ k : Nat, k ≤ s.size ∧ v = .int .i64 k ∧ Hid (Buf wr w.heap.size s.size (LowTo s k)) ∧ Hid (Below w.heap.size w wr)) (fun v _ => s.size - (intOf v).toNat)
  case atStart => exact ⟨0, Nat.zero_le _, rfl, Lib.hid (HBU.out.congr fun i _ => by simp [LowTo]), HBE⟩
  case round =>
    obtain ⟨k, hk, rfl, hbu, hbe⟩ := hrel
    by_cases hlt : k < s.size
    · have c0 := hbu.out.cell hlt
      have f0 := hbu.out.frozen hlt
      rw [show LowTo s k k = gb s k by simp [LowTo]] at c0
      have hbd := gb_bd s k
      by_cases hup : 65 ≤ gb s k ∧ gb s k ≤ 90
      · have hset := Lib.hid (lowTo_set s k hup)
        generalize gb s k = x at *
        have h1 := hup.1
        have h2 := hup.2
        clear hup
        go_wp2
        go_roundw
        case rel => exact ⟨k + 1, by omega, by go_num, Lib.hid ((hbu.out.set k (x + 32)).congr fun i _ => hset.out i), Lib.hid (hbe.out.setCell (Nat.le_refl _) _)⟩
        case measure => simp [intOf]; omega
      · have hkeep := Lib.hid (lowTo_keep s k hup)
        generalize gb s k = x at *
        go_wp2
        all_goals
          go_roundw
          case rel => exact ⟨k + 1, by omega, by go_num, Lib.hid (hbu.out.congr fun i _ => hkeep.out i), hbe⟩
          case measure => simp [intOf]; omega
    · obtain rfl : k = s.size := by omega
      have hcv := hbu.out.conv rfl (fun i hi => by simp [LowTo, hi]) cp
      go_wp2
      go_ret
      exact ⟨rfl, hbe.out⟩
end Go.Proofs.Ytlaoeciflifggaa.Rt
