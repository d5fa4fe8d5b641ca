/- The contract of the reference's Pieces. -/
import Derived.Test.YtinmfkbppgjcpaaAt
import Derived.Maps.AppendAt
set_option linter.unusedVariables false
namespace Go.Proofs.Ytinmfkbppgjcpaa
/-! max as Lean's own -/
@[go_sem high] theorem run_max_max {P : Program} {w : World} (ts : Array TypeId) (t : TypeId) (k k' : IntKind) (x y : Int) : (Builtin.max_ ts t #[.int k x, .int k' y]).run P w = .ok (.int k (max x y)) w := by
  rw [run_max_int2]
  congr 2
  split <;> omega
@[go_sem high] theorem run_min_min {P : Program} {w : World} (ts : Array TypeId) (t : TypeId) (k k' : IntKind) (x y : Int) : (Builtin.min_ ts t #[.int k x, .int k' y]).run P w = .ok (.int k (min x y)) w := by
  rw [run_min_int2]
  congr 2
  split <;> omega
end Go.Proofs.Ytinmfkbppgjcpaa
namespace Go.Proofs.Ytinmfkbppgjcpaa.Lz
open Go.RowKit LzP

theorem info47 : (Try.prog.info? 47).map (fun i => (i.zero, i.size, i.bytes)) = some (some (.agg #[.int .i64 0, .int .i64 0, .int .u8 0]), 3, 24) := by kernel_rfl

/-- the cells of pieces -/
def rowc (l : List (Nat × Nat × Int)) : List Value := l.flatMap fun p => [.int .i64 p.1, .int .i64 p.2.1, .int .u8 p.2.2]
theorem rowc_length (l : List (Nat × Nat × Int)) : (rowc l).length = l.length * 3 := by
  induction l with
  | nil => rfl
  | cons x l ih => simp only [rowc, List.flatMap_cons, List.length_append, List.length_cons, List.length_nil] at *; omega
theorem rowc_append (l r : List (Nat × Nat × Int)) : rowc (l ++ r) = rowc l ++ rowc r := by simp [rowc]

theorem row_below {w w' : World} {base : Nat} {t : TypeId} {size : Nat} {v : Value} {m : Nat} {xs : List Value} (h : w.ownsRow base t size v m xs) (hb : Below w.heap.size w w') : w'.ownsRow base t size v m xs :=
  h.kept (row := none) ⟨hb.os, hb.tape, hb.output, hb.size, fun k hk _ => hb.block k hk⟩ (by cases v.ownBlock <;> simp)

theorem new3 (w : World) (o : Obj) (t : TypeId) (v0 v1 v2 : Value) : ∀ j u, [v0, v1, v2][j]? = some u → ((w.alloc o).alloc (.cells #[v0, v1, v2] t)).cell? ((⟨w.heap.size + 1, 0, none⟩ : Addr).add j) = some u := by
  intro j u hj
  have h := heap_alloc2 w o (.cells #[v0, v1, v2] t)
  have hadd : ((⟨w.heap.size + 1, 0, none⟩ : Addr).add j) = ⟨w.heap.size + 1, j, none⟩ := by
    unfold Addr.add; split
    · subst j; rfl
    · simp
  rw [hadd]
  simp only [World.cell?, h]
  simpa using hj
theorem one3 (a b c : Int) : ∀ u ∈ [Value.int .i64 a, .int .i64 b, .int .u8 c], u.oneCell' = true := by
  intro u hu; simp at hu; rcases hu with rfl | rfl | rfl <;> rfl

/-- pieces handed back -/
def Got (T : TypeId) (w : World) (l : List (Nat × Nat × Int)) (e : Ending) (w' : World) : Prop :=
  ∃ sv, e = .returned (.tuple #[sv, .int .i64 0]) ∧ w'.ownsRow w.heap.size T 3 sv l.length (rowc l) ∧ Below w.heap.size w w'

set_option maxHeartbeats 1000000 in
set_option maxRecDepth 100000 in
theorem ref_pieces (a : Option Addr) (n cap : Nat) (g : Nat → Int) (win dep : Nat) (w : World) (ht : Txt w a n g) (hn : n ≤ 1048576) (hw1 : 1 ≤ win) (hw : win ≤ 32768) (hd : dep ≤ 4096) :
    Calls Try.prog 12 #[.slice a n cap, .int .i64 win, .int .i64 dep] w (Got 47 w (pieces g n win dep)) := by
  obtain ⟨R, hR⟩ : ∃ R, R = pieces g n win dep := ⟨_, rfl⟩
  rw [← hR]
  have HR := Lib.hid hR
  have HT := Lib.hid ht
  obtain ⟨i0, hi, hz0, hz1, hz2⟩ := info_parts info47
  have d1 : decide ((win : Int) < 1) = false := by simp; omega
  have d2 : decide (32768 < (win : Int)) = false := by simp; omega
  have d3 : decide ((dep : Int) < 0) = false := by simp
  have d4 : decide (4096 < (dep : Int)) = false := by simp; omega
  have d5 : decide (1048576 < (n : Int)) = false := by simp; omega
  clear hR ht
  go_enter Try.func12, Try.ntmps12
  go_wp2_with fail
  go_loopw [8, 9] (fun v i wr => ∃ (j : Nat) (pre : List (Nat × Nat × Int)), j ≤ n ∧ pre.length ≤ j ∧ i = .int .i64 j ∧ wr.ownsRow w.heap.size 47 3 v pre.length (rowc pre) ∧ Hid (R = pre ++ ps g n win dep (n - j) j) ∧ Below w.heap.size w wr) (fun _ i _ => n - (intOf i).toNat)
  case atStart =>
    exact ⟨0, [], Nat.zero_le _, Nat.le_refl _, rfl, World.ownsRow_nil _ _ _ _, Lib.hid HR.out, Below.refl _ _⟩
  case round =>
    obtain ⟨j, pre, hj, hpl, rfl, hown, hR, hbel⟩ := hrel
    clear HR
    by_cases hlt : j < n
    · obtain ⟨f, hf⟩ : ∃ f, n - j = f + 1 := ⟨n - j - 1, by omega⟩
      have hst := hR.out
      rw [hf] at hst
      unfold ps at hst
      rw [if_pos hlt] at hst
      have hA := at_any a n cap g j win dep wr (HT.out.below hbel) hn hlt hw hd
      simp only [pv] at hA
      have hfit := pc_fits g n win dep j
      generalize pc g n win dep j = p at hst hA hfit
      obtain ⟨pl, pd⟩ := p
      dsimp only at hst hfit hA
      obtain ⟨hf1, hf2, hf3⟩ := hfit
      generalize byt g j (pl, pd) = c at hst hA
      have HA := Lib.hid hA
      have HS := Lib.hid hst
      have HF := Lib.hid hf
      have HO := Lib.hid hown
      have HB := Lib.hid hbel
      clear hst hf hown hbel hR hA
      go_wp2_with fail
      refine HA.out.mono ?_
      rintro e w1 ⟨rfl, hb1⟩
      have HO1 := Lib.hid (row_below HO.out hb1)
      have HB1 := Lib.hid (HB.out.trans (hb1.mono HB.out.size))
      clear HO HB hb1 HA
      have hpl' : pre.length ≤ 1048576 := by omega
      go_wp2_with (at_builtin; refine wpList_append_own_at _ rfl _ _ 28 rfl w.heap.size 47 i0 (.agg #[.int .i64 0, .int .i64 0, .int .u8 0]) 3 24 Try.underlying28 hi hz0 hz1 hz2 rfl (by decide) _ _ _ rfl ((HO1.out.alloc _).alloc _) ⟨w1.heap.size + 1, 0, none⟩ 1 1 [.int .i64 pl, .int .i64 pd, .int .u8 c] rfl rfl ?c1 ?c2 ?c3 ?c4 ?c5 ?_)
      case c1 => exact new3 _ _ _ _ _ _
      case c2 => exact one3 _ _ _
      case c3 => unfold maxLen; omega
      case c4 => omega
      case c5 => have := HB1.out.size; simp; omega
      intro v' w2 hown2 hgrow _ _
      have hk : w2.heap[w1.heap.size]? = some (.cells #[.int .i64 pl, .int .i64 pd, .int .u8 c] 47 (0, 0)) := by
        rw [hgrow.block w1.heap.size (by simp; omega) (fun q => by have := (HO1.out.lt _ q.symm).2; omega), Below.heap_alloc _ _ _ (by simp)]
        exact heap_alloc_new _ _
      obtain ⟨k0, -, -, -, -⟩ := cells3 hk
      have hB2 := Lib.hid ((((HB1.out.alloc HB1.out.size _).alloc (by simp; have := HB1.out.size; omega) _).grown hgrow (by simp; have := HB1.out.size; omega) (fun k q => (HO1.out.lt _ q).1)))
      have HO2 := Lib.hid hown2
      obtain ⟨mx, hmx⟩ : ∃ mx, mx = max 1 pl := ⟨_, rfl⟩
      have hmi : max 1 (pl : Int) = (mx : Int) := by omega
      have hm1 : 1 ≤ mx := by omega
      have hm2 : mx ≤ n - j := by omega
      have HM := Lib.hid hmx
      clear hown2 hgrow hk HO1 HB1 hmx
      go_wp2
      go_roundw
      case rel =>
        refine ⟨j + mx, pre ++ [(pl, pd, c)], by omega, by simp; omega, by go_num, ?_, ?_, hB2.out⟩
        · have h := HO2.out
          rw [List.length_append, rowc_append]
          exact h
        · refine Lib.hid ?_
          rw [HS.out, HM.out, List.append_assoc]
          congr 1
          rw [ps_fuel g n win dep (n - (j + max 1 pl)) f (j + max 1 pl) (Nat.le_refl _) (by have := HF.out; omega)]
          rfl
      case measure => simp [intOf]; omega
    · obtain rfl : j = n := by omega
      have hR2 := hR.out
      rw [Nat.sub_self] at hR2
      have HR2 := Lib.hid hR2
      have HO := Lib.hid hown
      have HB := Lib.hid hbel
      clear hR hR2 hown hbel
      go_wp2
      go_ret2
      have hf : R = pre := by rw [HR2.out]; simp [ps]
      exact ⟨_, rfl, by rw [hf]; exact HO.out, HB.out⟩

theorem ref_pieces_bad (a : Option Addr) (n cap : Nat) (win dep : Int) (w : World) (hn : n ≤ maxLen) (h : win < 1 ∨ 32768 < win ∨ dep < 0 ∨ 4096 < dep) :
    Calls Try.prog 12 #[.slice a n cap, .int .i64 win, .int .i64 dep] w fun e w' => e = .returned (.tuple #[.slice none 0 0, .int .i64 1]) ∧ w = w' := by
  unfold maxLen at hn
  by_cases h1 : win < 1
  · go_enter Try.func12, Try.ntmps12
    go_wp2
    go_ret2
    exact ⟨rfl, rfl⟩
  · by_cases h2 : 32768 < win
    · go_enter Try.func12, Try.ntmps12
      go_wp2
      go_ret2
      exact ⟨rfl, rfl⟩
    · by_cases h3 : dep < 0
      · go_enter Try.func12, Try.ntmps12
        go_wp2
        go_ret2
        exact ⟨rfl, rfl⟩
      · have h4 : 4096 < dep := by omega
        clear h
        go_enter Try.func12, Try.ntmps12
        go_wp2
        go_ret2
        exact ⟨rfl, rfl⟩

theorem ref_pieces_long (a : Option Addr) (n cap : Nat) (win dep : Int) (w : World) (hn : n ≤ maxLen) (hl : 1048576 < n) (h1 : 1 ≤ win) (h2 : win ≤ 32768) (h3 : 0 ≤ dep) (h4 : dep ≤ 4096) :
    Calls Try.prog 12 #[.slice a n cap, .int .i64 win, .int .i64 dep] w fun e w' => e = .returned (.tuple #[.slice none 0 0, .int .i64 6]) ∧ w = w' := by
  unfold maxLen at hn
  go_enter Try.func12, Try.ntmps12
  go_wp2
  go_ret2
  exact ⟨rfl, rfl⟩

end Go.Proofs.Ytinmfkbppgjcpaa.Lz
