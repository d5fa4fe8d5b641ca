/- LimitsGates: the walk. -/
import Derived.Test.YtmdallmbmjcdfaaKnow
import Derived.Test.YtmdallmbmjcdfaaGate
import Derived.Test.YtmdallmbmjcdfaaRegs
import Derived.Test.YtmdallmbmjcdfaaRow
set_option linter.unusedVariables false
namespace Go.Proofs.Ytmdallmbmjcdfaa.Gt
open Go.RowKit Go.Proofs.Ytmdallmbmjcdfaa.Lm

theorem newGate_no (m : Int) (w : World) (h : m < 0 ∨ 0 ≤ m ∧ 1000 < m) : Calls Try.prog 15 #[.int .i64 m] w fun e w' => e = .returned (.tuple #[.pointer none, .int .i64 1]) ∧ w = w' := by
  rcases h with h | ⟨h, h'⟩
  all_goals
    go_enter Try.func15, Try.ntmps15
    go_wp2
    go_ret2
    exact ⟨rfl, rfl⟩
theorem refNewGate_no (m : Int) (w : World) (h : m < 0 ∨ 0 ≤ m ∧ 1000 < m) : Calls Try.prog 16 #[.int .i64 m] w fun e w' => e = .returned (.pointer none) ∧ w = w' := by
  rcases h with h | ⟨h, h'⟩
  all_goals
    go_enter Try.func16, Try.ntmps16
    go_wp2
    go_ret
    exact ⟨rfl, rfl⟩
theorem newGate_yes (m : Int) (w : World) (h : 0 ≤ m) (h' : m ≤ 1000) : Calls Try.prog 15 #[.int .i64 m] w fun e w' => e = .returned (.tuple #[.pointer (some ⟨w.heap.size, 0, none⟩), .int .i64 0]) ∧ w' = w.alloc (.cells #[.int .i64 0, .int .i64 m, .bool true] 58) := by
  go_enter Try.func15, Try.ntmps15
  go_wp2
  go_ret2
  exact ⟨rfl, rfl⟩
theorem refNewGate_yes (m : Int) (w : World) (h : 0 ≤ m) (h' : m ≤ 1000) : Calls Try.prog 16 #[.int .i64 m] w fun e w' => e = .returned (.pointer (some ⟨w.heap.size, 0, none⟩)) ∧ w' = w.alloc (.cells #[.int .i64 0, .int .i64 m] 49) := by
  go_enter Try.func16, Try.ntmps16
  go_wp2
  go_ret
  exact ⟨rfl, rfl⟩

/-- what the loop keeps -/
structure Two (w wr : World) (g r : Nat) (m n : Int) : Prop where
  below : Below w.heap.size w wr
  g0 : wr.heap[g]? = some (.cells #[.int .i64 n, .int .i64 m, .bool true] 58)
  r0 : wr.heap[r]? = some (.cells #[.int .i64 n, .int .i64 m] 49)
  gw : w.heap.size ≤ g
  rw' : w.heap.size ≤ r
  n0 : 0 ≤ n
  n1 : n ≤ m
  m1 : m ≤ 1000

theorem Two.facts {w wr : World} {g r : Nat} {m n : Int} (h : Two w wr g r m n) : g ≠ r ∧ wr.cell? ⟨g, 0, none⟩ = some (.int .i64 n) ∧ wr.cell? ⟨g, 1, none⟩ = some (.int .i64 m) ∧ wr.cell? ⟨g, 2, none⟩ = some (.bool true) ∧
    wr.cell? ⟨r, 0, none⟩ = some (.int .i64 n) ∧ wr.cell? ⟨r, 1, none⟩ = some (.int .i64 m) ∧ wr.frozen? ⟨g, 0, none⟩ = false ∧ wr.frozen? ⟨r, 0, none⟩ = false := by
  have h1 := h.g0
  have h2 := h.r0
  refine ⟨fun q => ?_, by simp [World.cell?, h1], by simp [World.cell?, h1], by simp [World.cell?, h1], by simp [World.cell?, h2], by simp [World.cell?, h2], by simp [World.frozen?, h1], by simp [World.frozen?, h2]⟩
  subst q; rw [h1] at h2; cases h2

theorem Two.set {w wr : World} {g r : Nat} {m n : Int} (h : Two w wr g r m n) (n' : Int) (h0 : 0 ≤ n') (h1 : n' ≤ m) : Two w ((wr.setCell ⟨g, 0, none⟩ (.int .i64 n')).setCell ⟨r, 0, none⟩ (.int .i64 n')) g r m n' := by
  have hne := h.facts.1
  refine ⟨(h.below.setCell h.gw _).setCell h.rw' _, ?_, ?_, h.gw, h.rw', h0, h1, h.m1⟩
  · rw [Below.heap_setCell _ _ _ _ (show g ≠ r from hne), heap_setCell_same (off := 0) h.g0]; rfl
  · rw [heap_setCell_same (off := 0) (w := wr.setCell ⟨g, 0, none⟩ (.int .i64 n')) (by rw [Below.heap_setCell _ _ _ _ (show r ≠ g from hne.symm)]; exact h.r0)]; rfl

theorem Two.same {w wr W : World} {g r : Nat} {m n : Int} (h : Two w wr g r m n) (h1 : W.heap = wr.heap) (h2 : W.os = wr.os) (h3 : W.tape = wr.tape) (h4 : W.output = wr.output) : Two w W g r m n :=
  ⟨⟨h2.trans h.below.os, h3.trans h.below.tape, h4.trans h.below.output, by rw [h1]; exact h.below.size, fun k hk => by rw [h1]; exact h.below.block k hk⟩, by rw [h1]; exact h.g0, by rw [h1]; exact h.r0, h.gw, h.rw', h.n0, h.n1, h.m1⟩

theorem other {w : World} {g r o : Nat} {u v : Value} (hne : g ≠ r) (h : w.cell? ⟨r, o, none⟩ = some v) : (w.setCell ⟨g, 0, none⟩ u).cell? ⟨r, o, none⟩ = some v := by
  rw [World.cell?_setCell_other _ _ _ _ (fun e => hne (congrArg Addr.block e))]; exact h
theorem otherf {w : World} {g r o : Nat} {u : Value} (h : w.frozen? ⟨r, o, none⟩ = false) : (w.setCell ⟨g, 0, none⟩ u).frozen? ⟨r, o, none⟩ = false := by
  rw [World.frozen?_setCell]; exact h

def Rel (w wr : World) (g r : Nat) (m : Int) (len : Nat) (i : Value) : Prop := ∃ (k : Nat) (n : Int), k ≤ len ∧ i = .int .i64 k ∧ Two w wr g r m n

set_option maxHeartbeats 1600000 in
theorem walk_no (m : Int) (a : Option Addr) (len cap : Nat) (w : World) (h : m < 0 ∨ 0 ≤ m ∧ 1000 < m) (hl : len ≤ 9223372036854775807) :
    Calls Try.prog 6 #[.int .i64 m, .slice a len cap] w fun e w' => e = .returned (.bool true) ∧ Below w.heap.size w w' := by
  have H := Lib.hid h
  clear h
  go_enter Try.func6, Try.ntmps6
  go_wp2_with fail
  refine (newGate_no m _ H.out).mono ?_; rintro e w' ⟨rfl, rfl⟩
  go_wp2_with fail
  refine (refNewGate_no m _ H.out).mono ?_; rintro e w' ⟨rfl, rfl⟩
  go_wp2_with (first | (go_at_call 9; refine (num_any 1 _ (by omega) (by omega)).mono ?_; rintro e w' ⟨rfl, rfl⟩) | (go_at_call 10; refine (knows_any _).mono ?_; rintro e w' ⟨rfl, hb'⟩; have HB' := Lib.hid hb'; clear hb'))
  go_loop [8] (fun i => i = .int .i64 0) (fun _ => 0)
  case atStart => rfl
  case round =>
    subst hrel
    by_cases h0 : 0 < len
    · go_wp2
      go_ret
      exact ⟨rfl, HB'.out⟩
    · go_wp2
      go_ret
      exact ⟨rfl, HB'.out⟩

set_option maxHeartbeats 4000000 in
theorem walk_yes (m : Int) (a : Option Addr) (len cap : Nat) (B : Nat → Bool) (w : World) (h0 : 0 ≤ m) (h1 : m ≤ 1000) (hl : len ≤ 9223372036854775807) (hr : RowAt w a len fun i => .bool (B i)) :
    Calls Try.prog 6 #[.int .i64 m, .slice a len cap] w fun e w' => e = .returned (.bool true) ∧ Below w.heap.size w w' := by
  have HR := Lib.hid hr
  clear hr
  go_enter Try.func6, Try.ntmps6
  go_wp2_with (first | (go_at_call 15; refine (newGate_yes m _ h0 h1).mono ?_; rintro e w' ⟨rfl, rfl⟩) | (go_at_call 16; refine (refNewGate_yes m _ h0 h1).mono ?_; rintro e w' ⟨rfl, rfl⟩) | (go_at_call 9; refine (num_any 0 _ (by omega) (by omega)).mono ?_; rintro e w' ⟨rfl, rfl⟩) | (go_at_call 10; refine (knows_any _).mono ?_; rintro e w1 ⟨rfl, hb'⟩; have HB' := Lib.hid hb'; clear hb'))
  have htwo : Two w w1 w.heap.size (w.heap.size + 1) m 0 := by
    have hb := HB'.out
    refine ⟨?_, ?_, ?_, Nat.le_refl _, by omega, by omega, h0, h1⟩
    · exact (((Below.refl _ _).alloc (Nat.le_refl _) _).alloc (by simp) _).trans (hb.mono (by simp; omega))
    · rw [hb.block _ (by simp; omega), Below.heap_alloc _ _ _ (by simp)]; exact heap_alloc_new _ _
    · rw [hb.block _ (by simp)]
      have := heap_alloc_new (w.alloc (.cells #[.int .i64 0, .int .i64 m, .bool true] 58)) (.cells #[.int .i64 0, .int .i64 m] 49)
      rw [World.size_alloc] at this
      exact this
  generalize w.heap.size + 1 = r at htwo ⊢
  have hgg : ∃ g, g = w.heap.size := ⟨_, rfl⟩
  obtain ⟨g, hg⟩ := hgg
  rw [← hg] at htwo ⊢
  clear hg HB'
  go_loopw [8] (fun i wr => Rel w wr g r m len i) (fun i _ => len - (intOf i).toNat)
  case atStart => exact ⟨0, 0, by omega, rfl, htwo⟩
  case round =>
    obtain ⟨k, n, hk, rfl, ht⟩ := hrel
    obtain ⟨hne, c0, c1, c2, d0, d1, cf, df⟩ := ht.facts
    have HT := Lib.hid ht
    have hn0 := ht.n0
    have hn1 := ht.n1
    clear htwo ht
    by_cases hlt : k < len
    · obtain ⟨b, off, rfl, hbl, hcell⟩ := HR.out k hlt
      have hcw : wr.cell? ⟨b, off + k, none⟩ = some (.bool (B k)) := by rw [HT.out.below.cell (p := ⟨b, off + k, none⟩) hbl]; exact hcell
      clear hcell
      have hbg : ¬ g = b := by have := HT.out.gw; omega
      have hbr : ¬ r = b := by have := HT.out.rw'; omega
      have hbg' : ¬ b = g := by omega
      have hbr' : ¬ b = r := by omega
      cases hB : B k with
      | true =>
        rw [hB] at hcw
        clear hB
        by_cases hf : n = m
        · subst hf
          go_wp2_with fail
          refine wp_region_head [0, 1, 2, 3, 4, 5, 7, 6, 8, 9, 10, 11, 12, 13, 14, 15, 16, 17, 18, 21, 19, 20, 22, 23, 24, 25, 26, 27] (by kernel_rfl) (by kernel_rfl) (fun c a d v w h => by cases d <;> exact h) ?_
          simp only [List.map_cons, List.map_nil, Array.getD_eq_getD_getElem?, List.getElem?_toArray, List.getElem?_cons_zero, List.getElem?_cons_succ, Option.getD_some, List.length_cons, List.length_nil, Nat.reduceAdd, List.drop_succ_cons, List.drop_zero]
          go_wp2_with (first | (go_at_call 17; refine (enter_full g n n _ hn0 rfl h1 (by exact c0) (by exact c1) (by exact c2)).mono ?_; rintro e w' ⟨rfl, q, rfl⟩) | (go_at_call 18; refine (refEnter_full r n n _ hn0 rfl h1 (by exact d0) (by exact d1)).mono ?_; rintro e w' ⟨rfl, q, rfl⟩))
          refine tail_at ?_
          intro W hW
          have ht : Two w W g r n n := by rw [hW.out]; exact HT.out.same rfl rfl rfl rfl
          clear hW c0 c1 c2 d0 d1 cf df
          obtain ⟨_, e0, e1, e2, f0, f1, ef, ff⟩ := ht.facts
          have HT' := Lib.hid ht
          have hn2 := ht.n1
          clear ht
          repeat (first | go_big_quiet_step ((go_at_call 21; exact Calls.quiet_of_same ((in_any g n _ (by exact e0)).mono fun _ _ ⟨x, y⟩ => ⟨x, y.symm⟩))) | quiet_step ((go_at_call 21; exact Calls.quiet_of_same ((in_any g n _ (by exact e0)).mono fun _ _ ⟨x, y⟩ => ⟨x, y.symm⟩))))
          refine wpQuiet_nil ?_
          intro _ hw'
          obtain ⟨nq, hw''⟩ := hw'
          subst hw''
          go_wp2
          go_roundw
          case rel => exact ⟨k + 1, n, by omega, by go_num, HT'.out.same rfl rfl rfl rfl⟩
          case measure => simp [intOf]; omega
        · have hlm : n < m := by omega
          clear hf
          go_wp2_with fail
          refine wp_region_head [0, 1, 2, 3, 4, 5, 7, 6, 8, 9, 10, 11, 12, 13, 14, 15, 16, 17, 18, 21, 19, 20, 22, 23, 24, 25, 26, 27] (by kernel_rfl) (by kernel_rfl) (fun c a d v w h => by cases d <;> exact h) ?_
          simp only [List.map_cons, List.map_nil, Array.getD_eq_getD_getElem?, List.getElem?_toArray, List.getElem?_cons_zero, List.getElem?_cons_succ, Option.getD_some, List.length_cons, List.length_nil, Nat.reduceAdd, List.drop_succ_cons, List.drop_zero]
          go_wp2_with (first | (go_at_call 17; refine (enter_room g n m _ hn0 hlm h1 (by exact c0) (by exact c1) (by exact c2) (by exact cf)).mono ?_; rintro e w' ⟨rfl, q, rfl⟩) | (go_at_call 18; refine (refEnter_room r n m _ hn0 hlm h1 (by exact other hne d0) (by exact other hne d1) (by exact otherf df)).mono ?_; rintro e w' ⟨rfl, q, rfl⟩))
          refine tail_at ?_
          intro W hW
          have ht : Two w W g r m (n + 1) := by rw [hW.out]; exact (HT.out.set (n + 1) (by omega) (by omega)).same rfl rfl rfl rfl
          clear hW c0 c1 c2 d0 d1 cf df
          obtain ⟨_, e0, e1, e2, f0, f1, ef, ff⟩ := ht.facts
          have HT' := Lib.hid ht
          have hn2 := ht.n1
          clear ht
          repeat (first | go_big_quiet_step ((go_at_call 21; exact Calls.quiet_of_same ((in_any g (n + 1) _ (by exact e0)).mono fun _ _ ⟨x, y⟩ => ⟨x, y.symm⟩))) | quiet_step ((go_at_call 21; exact Calls.quiet_of_same ((in_any g (n + 1) _ (by exact e0)).mono fun _ _ ⟨x, y⟩ => ⟨x, y.symm⟩))))
          refine wpQuiet_nil ?_
          intro _ hw'
          obtain ⟨nq, hw''⟩ := hw'
          subst hw''
          go_wp2
          go_roundw
          case rel => exact ⟨k + 1, (n + 1), by omega, by go_num, HT'.out.same rfl rfl rfl rfl⟩
          case measure => simp [intOf]; omega
      | false =>
        rw [hB] at hcw
        clear hB
        by_cases hf : n = 0
        · subst hf
          go_wp2_with fail
          refine wp_region_head [0, 1, 2, 3, 4, 5, 7, 6, 8, 9, 10, 11, 12, 13, 14, 15, 16, 17, 18, 21, 19, 20, 22, 23, 24, 25, 26, 27] (by kernel_rfl) (by kernel_rfl) (fun c a d v w h => by cases d <;> exact h) ?_
          simp only [List.map_cons, List.map_nil, Array.getD_eq_getD_getElem?, List.getElem?_toArray, List.getElem?_cons_zero, List.getElem?_cons_succ, Option.getD_some, List.length_cons, List.length_nil, Nat.reduceAdd, List.drop_succ_cons, List.drop_zero]
          go_wp2_with (first | (go_at_call 19; refine (leave_none g 0 0 _ rfl (by exact c0) (by exact c2)).mono ?_; rintro e w' ⟨rfl, rfl⟩) | (go_at_call 9; refine (num_any 3 _ (by omega) (by omega)).mono ?_; rintro e w' ⟨rfl, rfl⟩) | (go_at_call 20; refine (refLeave_none r 0 0 _ rfl (by exact d0)).mono ?_; rintro e w' ⟨rfl, rfl⟩))
          refine tail_at ?_
          intro W hW
          have ht : Two w W g r m 0 := by rw [hW.out]; exact HT.out.same rfl rfl rfl rfl
          clear hW c0 c1 c2 d0 d1 cf df
          obtain ⟨_, e0, e1, e2, f0, f1, ef, ff⟩ := ht.facts
          have HT' := Lib.hid ht
          have hn2 := ht.n1
          clear ht
          repeat (first | go_big_quiet_step ((go_at_call 21; exact Calls.quiet_of_same ((in_any g 0 _ (by exact e0)).mono fun _ _ ⟨x, y⟩ => ⟨x, y.symm⟩))) | quiet_step ((go_at_call 21; exact Calls.quiet_of_same ((in_any g 0 _ (by exact e0)).mono fun _ _ ⟨x, y⟩ => ⟨x, y.symm⟩))))
          refine wpQuiet_nil ?_
          intro _ hw'
          obtain ⟨nq, hw''⟩ := hw'
          subst hw''
          go_wp2
          go_roundw
          case rel => exact ⟨k + 1, 0, by omega, by go_num, HT'.out.same rfl rfl rfl rfl⟩
          case measure => simp [intOf]; omega
        · have hpos : 0 < n := by omega
          have hle : n ≤ 1000 := by omega
          clear hf
          go_wp2_with fail
          refine wp_region_head [0, 1, 2, 3, 4, 5, 7, 6, 8, 9, 10, 11, 12, 13, 14, 15, 16, 17, 18, 21, 19, 20, 22, 23, 24, 25, 26, 27] (by kernel_rfl) (by kernel_rfl) (fun c a d v w h => by cases d <;> exact h) ?_
          simp only [List.map_cons, List.map_nil, Array.getD_eq_getD_getElem?, List.getElem?_toArray, List.getElem?_cons_zero, List.getElem?_cons_succ, Option.getD_some, List.length_cons, List.length_nil, Nat.reduceAdd, List.drop_succ_cons, List.drop_zero]
          go_wp2_with (first | (go_at_call 19; refine (leave_some g n 0 _ hpos hle (by exact c0) (by exact c2) (by exact cf)).mono ?_; rintro e w' ⟨rfl, rfl⟩) | (go_at_call 9; refine (num_any 0 _ (by omega) (by omega)).mono ?_; rintro e w' ⟨rfl, rfl⟩) | (go_at_call 20; refine (refLeave_some r n 0 _ hpos hle (by exact other hne d0) (by exact otherf df)).mono ?_; rintro e w' ⟨rfl, rfl⟩))
          refine tail_at ?_
          intro W hW
          have ht : Two w W g r m (n - 1) := by rw [hW.out]; exact (HT.out.set (n - 1) (by omega) (by omega)).same rfl rfl rfl rfl
          clear hW c0 c1 c2 d0 d1 cf df
          obtain ⟨_, e0, e1, e2, f0, f1, ef, ff⟩ := ht.facts
          have HT' := Lib.hid ht
          have hn2 := ht.n1
          clear ht
          repeat (first | go_big_quiet_step ((go_at_call 21; exact Calls.quiet_of_same ((in_any g (n - 1) _ (by exact e0)).mono fun _ _ ⟨x, y⟩ => ⟨x, y.symm⟩))) | quiet_step ((go_at_call 21; exact Calls.quiet_of_same ((in_any g (n - 1) _ (by exact e0)).mono fun _ _ ⟨x, y⟩ => ⟨x, y.symm⟩))))
          refine wpQuiet_nil ?_
          intro _ hw'
          obtain ⟨nq, hw''⟩ := hw'
          subst hw''
          go_wp2
          go_roundw
          case rel => exact ⟨k + 1, (n - 1), by omega, by go_num, HT'.out.same rfl rfl rfl rfl⟩
          case measure => simp [intOf]; omega
    · go_wp2
      go_ret
      exact ⟨rfl, HT.out.below⟩

theorem walk (m : Int) (a : Option Addr) (len cap : Nat) (B : Nat → Bool) (w : World) (hl : len ≤ maxLen) (hr : RowAt w a len fun i => .bool (B i)) :
    Calls Try.prog 6 #[.int .i64 m, .slice a len cap] w fun e w' => e = .returned (.bool true) ∧ Below w.heap.size w w' := by
  unfold maxLen at hl
  by_cases h : 0 ≤ m ∧ m ≤ 1000
  · exact walk_yes m a len cap B w h.1 h.2 (by omega) hr
  · exact walk_no m a len cap w (by omega) (by omega)
end Go.Proofs.Ytmdallmbmjcdfaa.Gt
