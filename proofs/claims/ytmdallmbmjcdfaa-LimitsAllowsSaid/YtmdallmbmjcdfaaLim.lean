/- The contracts of limits.Limiter: none, clock, Left, drop, touch, Allow, Keys, New. -/
import Derived.Test.YtmdallmbmjcdfaaChecked
import Derived.Test.YtmdallmbmjcdfaaMaps
import Derived.Test.YtmdallmbmjcdfaaPlain
import Derived.WalkKit
import Derived.WalkSpells
import Derived.WalkLawsBesides
import Derived.Deep.QuietTactic
import Derived.BigQuiet
import Derived.Deep.RegionWith
import Derived.Deep.RegionLaw
import Derived.StillTailTactics
import Derived.Maps.AppendAt
import Derived.Lib.Hide
set_option linter.unusedVariables false
namespace Go.Proofs.Ytmdallmbmjcdfaa.Lm
open Go.RowKit

theorem ret_int {k : IntKind} {a b : Int} (h : a = b) : Ending.returned (.int k a) = .returned (.int k b) := by rw [h]

theorem none_no (b : Nat) (r : Int) (w : World) (hr : 1 ≤ r) (h2 : w.cell? ⟨b, 2, none⟩ = some (.int .i64 r)) :
    Calls Try.prog 23 #[.pointer (some ⟨b, 0, none⟩)] w fun e w' => e = .returned (.bool false) ∧ w = w' := by
  have hz : (r == 0) = false := by simp; omega
  go_enter Try.func23, Try.ntmps23
  go_wp2
  go_ret
  exact ⟨rfl, rfl⟩

theorem clock_any (b : Nat) (t now : Int) (w : World) (h5 : w.cell? ⟨b, 5, none⟩ = some (.int .i64 t)) :
    Calls Try.prog 24 #[.pointer (some ⟨b, 0, none⟩), .int .i64 now] w fun e w' => e = .returned (.int .i64 (max t (min now 1099511627776))) ∧ w = w' := by
  go_enter Try.func24, Try.ntmps24
  go_wp2
  all_goals
    go_ret
    exact ⟨ret_int (by omega), rfl⟩

theorem info9 : (Try.prog.info? 9).map (fun i => (i.zero, i.size, i.bytes)) = some (some (.string .empty), 1, 16) := by kernel_rfl
theorem zero61 (w : World) : (zeroValue 61).run Try.prog w = .ok (.agg #[.int .i64 0, .int .i64 0]) w := by kernel_rfl

def bv (p : Int × Int) : Value := .agg #[.int .i64 p.1, .int .i64 p.2]
def look (l : List Bk) (k : ByteArray) : Option Value := (find l k).map bv

def LimW (w : World) (b m : Nat) (sv : Value) (s : LS) : Prop :=
  w.heap[b]? = some (.cells #[.map (some m), sv, .int .i64 s.rate, .int .i64 s.full, .int .i64 s.keys, .int .i64 s.now] 56 (0, 0)) ∧
  StrMap w m (look s.l) ∧ w.ownsRow 0 9 1 sv s.l.length (s.l.map fun e => .string e.1)

/-- the six cells of a limiter -/
theorem cells6 {w : World} {b : Nat} {c0 c1 c2 c3 c4 c5 : Value} {t : TypeId} (h : w.heap[b]? = some (.cells #[c0, c1, c2, c3, c4, c5] t (0, 0))) :
    w.cell? ⟨b, 0, none⟩ = some c0 ∧ w.cell? ⟨b, 1, none⟩ = some c1 ∧ w.cell? ⟨b, 2, none⟩ = some c2 ∧ w.cell? ⟨b, 3, none⟩ = some c3 ∧ w.cell? ⟨b, 4, none⟩ = some c4 ∧ w.cell? ⟨b, 5, none⟩ = some c5 ∧
      (∀ o, w.frozen? ⟨b, o, none⟩ = false) ∧ b < w.heap.size := by
  refine ⟨by simp [World.cell?, h], by simp [World.cell?, h], by simp [World.cell?, h], by simp [World.cell?, h], by simp [World.cell?, h], by simp [World.cell?, h], fun o => by simp [World.frozen?, h], (Array.getElem?_eq_some_iff.1 h).1⟩

theorem left_none (b m : Nat) (sv : Value) (s : LS) (k : ByteArray) (now : Int) (w : World) (hw : LimW w b m sv s) (hs : Ok s) (hf : find s.l k = none) :
    Calls Try.prog 12 #[.pointer (some ⟨b, 0, none⟩), .string k, .int .i64 now] w fun e w' => e = .returned (.int .i64 (left s k now)) ∧ Below w.heap.size w w' := by
  obtain ⟨hb, hm, hrow⟩ := hw
  obtain ⟨c0, c1, c2, c3, c4, c5, fr, lt⟩ := cells6 hb
  have hlk := hm.lookup Try.underlying51 Try.underlying9 k (zero61 w)
  have hl : look s.l k = none := by simp [look, hf]
  rw [hl] at hlk
  simp only [Option.getD_none, Option.isSome_none] at hlk
  have HL := Lib.hid hlk
  have hfin : left s k now = s.full := by simp [left, hf]
  have HF := Lib.hid hfin
  have hr1 := hs.rate1
  clear hlk hfin hl hf hrow hb fr
  go_enter Try.func12, Try.ntmps12
  go_wp2_with (first | (go_at_call 23; refine (none_no b s.rate _ hr1 c2).mono ?_; rintro e w' ⟨rfl, rfl⟩) | (at_lookup; refine wpList_lookup_str _ rfl _ _ 51 rfl _ m k rfl rfl HL.out ?_))
  go_ret
  exact ⟨ret_int HF.out.symm, (Below.refl _ _).alloc (Nat.le_refl _) _⟩

theorem mul_bd {x r : Int} (h0 : 0 ≤ x) (h1 : x ≤ 2000000) (h2 : 1 ≤ r) (h3 : r ≤ 1000000) : 0 ≤ x * r ∧ x * r ≤ 2000000000000 := by
  have := Int.mul_nonneg h0 (show 0 ≤ r by omega)
  have := Int.mul_le_mul h1 h3 (show 0 ≤ r by omega) (show (0 : Int) ≤ 2000000 by omega)
  omega

set_option maxHeartbeats 400000 in
theorem left_some (b m : Nat) (sv : Value) (s : LS) (k : ByteArray) (now n a : Int) (w : World) (hw : LimW w b m sv s) (hs : Ok s) (hf : find s.l k = some (n, a)) :
    Calls Try.prog 12 #[.pointer (some ⟨b, 0, none⟩), .string k, .int .i64 now] w fun e w' => e = .returned (.int .i64 (left s k now)) ∧ Below w.heap.size w w' := by
  obtain ⟨hb, hm, hrow⟩ := hw
  obtain ⟨c0, c1, c2, c3, c4, c5, fr, lt⟩ := cells6 hb
  have hlk := hm.lookup Try.underlying51 Try.underlying9 k (zero61 w)
  have hl : look s.l k = some (bv (n, a)) := by simp [look, hf]
  rw [hl] at hlk
  simp only [Option.getD_some, Option.isSome_some, bv] at hlk
  have HL := Lib.hid hlk
  have hfin : left s k now = min s.full (n + min (clock s now - a) s.full * s.rate) := by simp [left, hf]
  have hcl := clock_bd hs now
  have hck : clock s now = max s.now (min now 1099511627776) := by simp [clock, last]
  generalize clock s now = cl at hfin hcl hck
  have HF := Lib.hid hfin
  have HC := Lib.hid hck
  have hr1 := hs.rate1
  have hbd := hs.each _ (find_mem hf)
  have hnn := hs.now1
  have hr2 := hs.rate2
  have hf1 := hs.full1
  have hf2 := hs.full2
  unfold last at hcl
  simp only at hbd
  obtain ⟨hb1, hb2, hb3, hb4⟩ := hbd
  obtain ⟨hc1, hc2, hc3⟩ := hcl
  clear hlk hfin hl hf hrow hb fr hm hs hck
  by_cases hd : s.full < cl - a
  · obtain ⟨hm1, hm2⟩ := mul_bd (show 0 ≤ s.full by omega) hf2 hr1 hr2
    go_enter Try.func12, Try.ntmps12
    go_wp2_with (first | (go_at_call 23; refine (none_no b s.rate _ hr1 c2).mono ?_; rintro e w' ⟨rfl, rfl⟩) | (at_lookup; refine wpList_lookup_str _ rfl _ _ 51 rfl _ m k rfl rfl HL.out ?_))
    go_quiet ((go_at_call 24; exact Calls.quiet_of_same ((clock_any b s.now now _ (cell_allocN c5 _ _)).mono (fun _ _ ⟨h1, h2⟩ => ⟨h1.trans (ret_int HC.out.symm), h2.symm⟩))))
    go_wp2
    go_quiet (fail)
    go_wp2
    all_goals
      go_ret
      refine ⟨ret_int ?_, belowN ((Below.refl _ _).alloc (Nat.le_refl _) _)⟩
      rw [HF.out, Int.min_eq_right (show s.full ≤ cl - a by omega)]
      omega
  · obtain ⟨hm1, hm2⟩ := mul_bd (show 0 ≤ cl - a by omega) (by omega) hr1 hr2
    go_enter Try.func12, Try.ntmps12
    go_wp2_with (first | (go_at_call 23; refine (none_no b s.rate _ hr1 c2).mono ?_; rintro e w' ⟨rfl, rfl⟩) | (at_lookup; refine wpList_lookup_str _ rfl _ _ 51 rfl _ m k rfl rfl HL.out ?_))
    go_quiet ((go_at_call 24; exact Calls.quiet_of_same ((clock_any b s.now now _ (cell_allocN c5 _ _)).mono (fun _ _ ⟨h1, h2⟩ => ⟨h1.trans (ret_int HC.out.symm), h2.symm⟩))))
    go_wp2
    go_quiet (fail)
    go_wp2
    all_goals
      go_ret
      refine ⟨ret_int ?_, belowN ((Below.refl _ _).alloc (Nat.le_refl _) _)⟩
      rw [HF.out, Int.min_eq_left (show cl - a ≤ s.full by omega)]
      omega

theorem left_any (b m : Nat) (sv : Value) (s : LS) (k : ByteArray) (now : Int) (w : World) (hw : LimW w b m sv s) (hs : Ok s) :
    Calls Try.prog 12 #[.pointer (some ⟨b, 0, none⟩), .string k, .int .i64 now] w fun e w' => e = .returned (.int .i64 (left s k now)) ∧ Below w.heap.size w w' := by
  cases hf : find s.l k with
  | none => exact left_none b m sv s k now w hw hs hf
  | some p => exact left_some b m sv s k now p.1 p.2 w hw hs hf

/-- what a limiter's blocks are -/
def feet (b m : Nat) (sv : Value) (k : Nat) : Prop := k = b ∨ k = m ∨ sv.ownBlock = some k

theorem drop_none_any (b m : Nat) (sv : Value) (s : LS) (k : ByteArray) (w : World) (hw : LimW w b m sv s) (hf : find s.l k = none) :
    Calls Try.prog 25 #[.pointer (some ⟨b, 0, none⟩), .string k] w fun e w' => e = .returned (.tuple #[]) ∧ Below w.heap.size w w' := by
  obtain ⟨hb, hm, hrow⟩ := hw
  obtain ⟨c0, c1, c2, c3, c4, c5, fr, lt⟩ := cells6 hb
  have hlk := hm.lookup Try.underlying51 Try.underlying9 k (zero61 w)
  have hl : look s.l k = none := by simp [look, hf]
  rw [hl] at hlk
  simp only [Option.getD_none, Option.isSome_none] at hlk
  have HL := Lib.hid hlk
  clear hlk hl hf hrow hb fr
  go_enter Try.func25, Try.ntmps25
  go_wp2_with (at_lookup; refine wpList_lookup_str _ rfl _ _ 51 rfl _ m k rfl rfl HL.out ?_)
  refine bodyPost_ret (results_none rfl _ _ _) rfl ?_
  exact ⟨rfl, (Below.refl _ _).alloc (Nat.le_refl _) _⟩

/-- THE CELLS THAT ARE MOVED ONE TO THE LEFT -/
def moved (cur : Array Value) (i len : Nat) : List Value := (cur.toList.drop (i + 1)).take (len - (i + 1))

theorem moved_length {cur : Array Value} {i len : Nat} (h : len ≤ cur.size) : (moved cur i len).length = len - (i + 1) := by
  simp [moved]; omega
theorem moved_get {cur : Array Value} {i len j : Nat} (hj : j < len - (i + 1)) : (moved cur i len)[j]? = cur[i + 1 + j]? := by
  simp [moved, hj]

theorem eraseP_at {l : List Bk} {k : ByteArray} (h : find l k ≠ none) : ∃ i e, l[i]? = some e ∧ e.1 = k ∧ (∀ j, j < i → ∀ x, l[j]? = some x → x.1 ≠ k) ∧ drop l k = l.eraseIdx i := by
  induction l with
  | nil => simp [find] at h
  | cons x l ih =>
    by_cases hx : x.1 = k
    · exact ⟨0, x, rfl, hx, fun j hj => absurd hj (by omega), by simp [drop, hx]⟩
    · have h' : find l k ≠ none := by simpa [find, List.find?_cons, hx] using h
      obtain ⟨i, e, h1, h2, h3, h4⟩ := ih h'
      refine ⟨i + 1, e, by simpa using h1, h2, ?_, by simpa [drop, List.eraseP_cons, hx] using h4⟩
      intro j hj y hy
      cases j with
      | zero => simp at hy; subst hy; exact hx
      | succ j => exact h3 j (by omega) y (by simpa using hy)

theorem look_drop {s : LS} (hs : Ok s) (k : ByteArray) : look (drop s.l k) = fun x => if x = k then none else look s.l x := by
  funext x
  unfold look
  by_cases h : x = k
  · subst h; simp [find_drop_same hs.apart]
  · simp [h, find_drop_other hs.apart h]

theorem drop_close {b m g cap j : Nat} {s : LS} {k : ByteArray} {e : Bk} {w w1 : World} {cur : Array Value} {o : Obj} (hs : Ok s)
    (hb : w.heap[b]? = some (.cells #[.map (some m), .slice (some ⟨g, 0, none⟩) s.l.length cap, .int .i64 s.rate, .int .i64 s.full, .int .i64 s.keys, .int .i64 s.now] 56 (0, 0)))
    (hg : w.heap[g]? = some (.cells cur 9 (0, 0))) (hbm : b ≠ m) (hgm : g ≠ m) (hgb : g ≠ b) (hcap : s.l.length ≤ cap) (hmax : cap ≤ maxLen) (hsz : cur.size = cap * 1)
    (htake : cur.toList.take (s.l.length * 1) = s.l.map fun e => .string e.1)
    (hs1 : StrMap w1 m (fun x => if x = k then none else look s.l x)) (hf1 : Foot (w.alloc o) w1 (fun q => q = m)) (hi : s.l[j]? = some e) (hd : drop s.l k = s.l.eraseIdx j) (lt : b < w.heap.size) (ltg : g < w.heap.size) (W : World)
    (hW : W = (w1.drew.setCells g j (moved cur j s.l.length)).setCell ⟨b, 1, none⟩ (.slice (some ⟨g, 0, none⟩) (j + (s.l.length - (j + 1))) cap) := by rfl) :
    ∃ sv', LimW W b m sv' { s with l := drop s.l k } ∧ Foot w W (feet b m (.slice (some ⟨g, 0, none⟩) s.l.length cap)) ∧ sv'.ownBlock = (Value.slice (some ⟨g, 0, none⟩) s.l.length cap).ownBlock := by
  subst hW
  have hj : j < s.l.length := (List.getElem?_eq_some_iff.1 hi).1
  have hle : s.l.length ≤ cur.size := by omega
  have hb1 := (hf1.block b (by simp; omega) hbm).trans ((Below.heap_alloc w o b lt).trans hb)
  have hg1 := (hf1.block g (by simp; omega) hgm).trans ((Below.heap_alloc w o g ltg).trans hg)
  have hml := moved_length (i := j) hle
  have hset := heap_setCells (moved cur j s.l.length) j w1.drew cur hg1 (by omega)
  have hfs := foot_setCells (g := g) (moved cur j s.l.length) j w1.drew
  have hlm := hs1.lt
  have hbb := (hfs.block b (by show b < w1.heap.size; have := hf1.size; simp at this; omega) hgb.symm).trans hb1
  have hmm := (hfs.block m (by show m < w1.heap.size; exact hlm) hgm.symm)
  refine ⟨.slice (some ⟨g, 0, none⟩) (j + (s.l.length - (j + 1))) cap, ⟨?_, ?_, ?_⟩, ?_, rfl⟩
  · have := heap_setCell_same (off := 1) hbb (.slice (some ⟨g, 0, none⟩) (j + (s.l.length - (j + 1))) cap)
    rw [this]; rfl
  · show StrMap _ m (look (drop s.l k))
    rw [look_drop hs]
    refine hs1.keep ?_
    rw [Below.heap_setCell _ _ _ _ (show m ≠ b from hbm.symm)]
    exact hmm
  · have hlen : (drop s.l k).length = j + (s.l.length - (j + 1)) := by
      rw [hd, List.length_eraseIdx_of_lt hj]; omega
    show World.ownsRow _ 0 9 1 _ (drop s.l k).length ((drop s.l k).map _)
    rw [hlen]
    refine ⟨by simp [hlen], .inr ⟨g, cap, (cur.toList.take j ++ moved cur j s.l.length ++ cur.toList.drop (j + (moved cur j s.l.length).length)).toArray, rfl, Nat.zero_le _, ?_, by omega, hmax, ?_, ?_⟩⟩
    · rw [Below.heap_setCell _ _ _ _ (show g ≠ b from hgb)]
      exact hset
    · simp; omega
    · have e1 : (cur.toList.take j ++ moved cur j s.l.length).length = j + (s.l.length - (j + 1)) := by simp [hml]; omega
      simp only [Nat.mul_one]
      show ((cur.toList.take j ++ moved cur j s.l.length) ++ _).take _ = _
      rw [← e1, List.take_left]
      rw [hd, List.eraseIdx_eq_take_drop_succ, List.map_append, List.map_take, List.map_drop, ← htake]
      simp only [Nat.mul_one, moved, List.take_take, List.drop_take]
      congr 1
      congr 1
      omega
  · refine Foot.setCell ?_ (.inr (.inl rfl)) _
    refine Foot.trans (w1 := w1) ?_ (Foot.trans (Foot.drew (Foot.refl w1 (fun q => q = g))) hfs (fun _ _ h => h)) (fun q _ h => .inr (.inr (by subst h; rfl)))
    exact Foot.trans (Foot.alloc (Foot.refl w _) o) hf1 (fun q _ h => .inr (.inl h))

set_option maxHeartbeats 1600000 in
set_option maxRecDepth 100000 in
theorem drop_some_any (b m : Nat) (sv : Value) (s : LS) (k : ByteArray) (w : World) (hw : LimW w b m sv s) (hs : Ok s) (hf : find s.l k ≠ none) :
    Calls Try.prog 25 #[.pointer (some ⟨b, 0, none⟩), .string k] w fun e w' => e = .returned (.tuple #[]) ∧ ∃ sv', LimW w' b m sv' { s with l := drop s.l k } ∧ Foot w w' (feet b m sv) ∧ sv'.ownBlock = sv.ownBlock := by
  obtain ⟨i, e, hi1, hi2, hi3, hi4⟩ := eraseP_at hf
  have hW := hw
  obtain ⟨hb, hm, hrow⟩ := hw
  obtain ⟨c0, c1, c2, c3, c4, c5, fr, lt⟩ := cells6 hb
  have hil : i < s.l.length := (List.getElem?_eq_some_iff.1 hi1).1
  obtain ⟨hrl, hrv⟩ := hrow
  rcases hrv with ⟨_, h0⟩ | ⟨g, cap, cur, hsv, _, hg, hcap, hmax, hsz, htake⟩
  · omega
  have hlk := hm.lookup Try.underlying51 Try.underlying9 k (zero61 w)
  obtain ⟨z, hz⟩ := Option.ne_none_iff_exists'.1 hf
  have hl : look s.l k = some (bv z) := by simp [look, hz]
  rw [hl] at hlk
  simp only [Option.getD_some, Option.isSome_some, bv] at hlk
  have HL := Lib.hid hlk
  have hbm : b ≠ m := by
    intro q; subst q
    obtain ⟨es, cl, hq, _⟩ := hm
    rw [hb] at hq; cases hq
  have hgm : g ≠ m := by
    intro q; subst q
    obtain ⟨es, cl, hq, _⟩ := hm
    rw [hg] at hq; cases hq
  have hgb : g ≠ b := by
    intro q; subst q
    rw [hb] at hg; cases hg
  subst hsv
  have HI := Lib.hid (And.intro hi1 (And.intro hi2 (And.intro hi3 hi4)))
  have HE := Lib.hid (And.intro hrl (And.intro hsz htake))
  have HW := Lib.hid hW
  clear hi1 hi2 hi3 hi4 hrl hsz htake hW hf hlk hl hz
  have HG := Lib.hid hg
  have HB := Lib.hid hb
  clear hg hb
  go_enter Try.func25, Try.ntmps25
  go_wp2_with (first | (at_lookup; refine wpList_lookup_str _ rfl _ _ 51 rfl _ m k rfl rfl HL.out ?_) | (at_delete; refine wpList_delete_str _ rfl _ _ 51 9 rfl 61 m k (look s.l) rfl rfl (hm.keep (Below.heap_alloc _ _ _ hm.lt)) Try.underlying51 Try.underlying9 ?_; intro w1 hs1 hf1; have hb1 := (hf1.block b (by simp; omega) hbm).trans ((Below.heap_alloc w _ b lt).trans HB.out); obtain ⟨d0, d1, d2, d3, d4, d5, dr, dlt⟩ := cells6 hb1; have HB1 := Lib.hid hb1; clear hb1))
  have hg1 := (hf1.block g (by have := (Array.getElem?_eq_some_iff.1 HG.out).1; simp; omega) hgm).trans ((Below.heap_alloc w _ g (Array.getElem?_eq_some_iff.1 HG.out).1).trans HG.out)
  have hcell : ∀ j x, s.l[j]? = some x → w1.cell? ⟨g, j, none⟩ = some (.string x.1) := by
    intro j x hx
    obtain ⟨hrl, hsz, htake⟩ := HE.out
    have hj : j < s.l.length := (List.getElem?_eq_some_iff.1 hx).1
    have : (cur.toList.take (s.l.length * 1))[j]? = some (.string x.1) := by rw [htake]; simp [hx]
    rw [List.getElem?_take_of_lt (by omega)] at this
    simp only [World.cell?, hg1]
    simpa using this
  have hfz : ∀ o, w1.frozen? ⟨g, o, none⟩ = false := by
    intro o; simp [World.frozen?, hg1]
  have HC := Lib.hid hcell
  have HF := Lib.hid hfz
  have HG1 := Lib.hid hg1
  clear hcell hfz hg1
  have hlen : s.l.length ≤ 9223372036854775807 := by unfold maxLen at hmax; omega
  go_loop [29] (fun c => ∃ j : Nat, j ≤ i ∧ c = .int .i64 j) (fun c => i - (intOf c).toNat)
  case atStart => exact ⟨0, Nat.zero_le _, rfl⟩
  case round =>
    obtain ⟨j, hj, rfl⟩ := hrel
    by_cases hlt : j < i
    · obtain ⟨x, hx⟩ : ∃ x, s.l[j]? = some x := ⟨s.l[j], List.getElem?_eq_getElem (by omega)⟩
      have hcj := HC.out j x hx
      have hne : (x.1.toList == k.toList) = false := by
        have := HI.out.2.2.1 j hlt x hx
        rw [← beq_toListBytes, ← Bool.not_eq_true, MapKept.bytes_beq]; exact this
      clear hx
      have hjl : j < s.l.length := by omega
      go_wp2
      go_round
      case rel => exact ⟨j + 1, by omega, by go_num⟩
      case measure => simp [intOf]; omega
    · obtain rfl : j = i := by omega
      have hcj := HC.out j e HI.out.1
      rw [HI.out.2.1] at hcj
      obtain ⟨i0, hi0, hz0, hz1, hz2⟩ := info_parts info9
      obtain ⟨A, hA, hnews⟩ : ∃ A : Addr, (if cap = j + 1 then some (⟨g, 0, none⟩ : Addr) else some ⟨g, j + 1, none⟩) = some A ∧ Hid (∀ j' u, (moved cur j s.l.length)[j']? = some u → w1.drew.cell? (A.add j') = some u) := by
        by_cases h : cap = j + 1
        · refine ⟨⟨g, 0, none⟩, by simp [h], fun j' u hu => ?_⟩
          have h0 : (moved cur j s.l.length).length = 0 := by rw [moved_length (by have := HE.out.2.1; omega)]; omega
          rw [List.length_eq_zero_iff.1 h0] at hu
          simp at hu
        · refine ⟨⟨g, j + 1, none⟩, by simp [h], fun j' u hu => ?_⟩
          have hj : j' < s.l.length - (j + 1) := by
            have := (List.getElem?_eq_some_iff.1 hu).1
            rwa [moved_length (by have := HE.out.2.1; omega)] at this
          rw [moved_get hj] at hu
          rw [Addr.add_lit]
          show w1.cell? _ = _
          simp only [World.cell?, HG1.out]
          simpa using hu
      have s1 : Hid ((moved cur j s.l.length).length = (s.l.length - (j + 1)) * 1) := by rw [Nat.mul_one]; exact moved_length (by have := HE.out.2.1; omega)
      have s2 : Hid (∀ u ∈ moved cur j s.l.length, u.oneCell' = true) := by
        intro u hu
        obtain ⟨_, hsz, htake⟩ := HE.out
        obtain ⟨j', hj'⟩ := List.mem_iff_getElem?.1 hu
        have hlt' : j' < s.l.length - (j + 1) := by
          have := (List.getElem?_eq_some_iff.1 hj').1
          rwa [moved_length (by omega)] at this
        rw [moved_get hlt'] at hj'
        have : (cur.toList.take (s.l.length * 1))[j + 1 + j']? = some u := by rw [List.getElem?_take_of_lt (by omega)]; simpa using hj'
        rw [htake] at this
        simp at this
        obtain ⟨q, hq, rfl⟩ := this
        rfl
      have s3 : Hid (∀ j', j' < (moved cur j s.l.length).length → (w1.drew.cell? ⟨g, 0 + j * 1 + j', none⟩).isSome = true ∧ w1.drew.frozen? ⟨g, 0 + j * 1 + j', none⟩ = false) := by
        intro j' hj'
        have hsz := HE.out.2.1
        rw [moved_length (by omega)] at hj'
        refine ⟨?_, HF.out _⟩
        show (w1.cell? _).isSome = true
        simp only [World.cell?, HG1.out]
        simp
        omega
      have hic : j ≤ cap := by omega
      have hwr : IntKind.i64.wrap ((j : Int) + 1) = (j : Int) + 1 := by rw [IntKind.wrap_i64]; omega
      have hp0 : (0 : Int) ≤ (j : Int) + 1 := by omega
      have hp1 : (j : Int) + 1 ≤ (s.l.length : Int) := by omega
      have hp2 : ((j : Int) + 1).toNat = j + 1 := by omega
      have hjl : j < s.l.length := by omega
      have k1 : (w1.drew.setCells g j (moved cur j s.l.length)).cell? ⟨b, 1, none⟩ = some (.slice (some ⟨g, 0, none⟩) s.l.length cap) := by
        rw [World.cell?_setCells_out g _ _ _ _ (fun q _ => absurd q.symm hgb)]; exact d1
      have e1 : (w1.drew.setCells g j (moved cur j s.l.length)).frozen? ⟨b, 1, none⟩ = false := by
        rw [World.frozen?_setCells]; exact dr 1
      go_wp2_with fail
      go_region_law (refine step_append_room rfl (.tmp 43) (.tmp 50) 52 rfl 9 i0 1 Try.underlying52 hi0 hz1 g 0 j cap (by simp [Act.eval, Act.put]) A (s.l.length - (j + 1)) (cap - (j + 1)) (moved cur j s.l.length) (by simp [Act.eval, Act.put]) s1.out hnews.out s2.out (by omega) s3.out ?_)
      all_goals go_wp2
      all_goals refine bodyPost_ret (results_none rfl _ _ _) rfl ?_
      all_goals exact ⟨rfl, drop_close hs HB.out HG.out hbm hgm hgb hcap hmax HE.out.2.1 HE.out.2.2 hs1 hf1 HI.out.1 HI.out.2.2.2 lt (Array.getElem?_eq_some_iff.1 HG.out).1 _⟩
end Go.Proofs.Ytmdallmbmjcdfaa.Lm
