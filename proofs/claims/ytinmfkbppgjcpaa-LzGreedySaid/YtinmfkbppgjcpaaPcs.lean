/- The contract of lz.Pieces. -/
import Derived.Test.YtinmfkbppgjcpaaPce
set_option linter.unusedVariables false
namespace Go.Proofs.Ytinmfkbppgjcpaa.Lz
open Go.RowKit LzP

theorem info37 : (Try.prog.info? 37).map (fun i => (i.zero, i.size, i.bytes)) = some (some (.agg #[.int .i64 0, .int .i64 0, .int .u8 0]), 3, 24) := by kernel_rfl

theorem places_zero (g : Nat → Int) : places g 0 = fun _ => [] := by funext k; rfl

theorem fin_new (W : World) (sv : Value) (win dep : Int) (g : Nat → Int) : FinW ((W.alloc (.map #[] 0)).alloc (.cells #[sv, .map (some W.heap.size), .int .i64 0, .int .i64 win, .int .i64 dep] 56)) (W.heap.size + 1) W.heap.size sv 0 win dep g #[] 0 (fun _ => .slice none 0 0) := by
  refine ⟨heap_alloc2 _ _ _, ⟨?_, Go.MapKept.stamped_empty 0, by simp, fun k _ => .inr ⟨by simp, rfl⟩, fun k _ => ?_, fun _ _ _ _ _ => .inl rfl⟩⟩
  · rw [Below.heap_alloc _ _ _ (by simp)]; exact heap_alloc_new _ _
  · rw [places_zero]; exact World.ownsRow_nil _ _ _ _

theorem feet_none (fb mb : Nat) (b : Nat) : ffeet fb mb (fun _ => .slice none 0 0) b → b = fb ∨ b = mb := by
  rintro (h | h | ⟨_, _, h⟩)
  · exact .inl h
  · exact .inr h
  · cases h

theorem FinW.feet_lt {w : World} {fb mb : Nat} {sv : Value} {nx : Nat} {win dep : Int} {g : Nat → Int} {es : Array MapEntry} {clock : Nat} {F : Int × Int × Int → Value} (h : FinW w fb mb sv nx win dep g es clock F) : ∀ b, ffeet fb mb F b → b < w.heap.size := by
  rintro b (rfl | rfl | ⟨k, hk, hb⟩)
  · exact (Array.getElem?_eq_some_iff.1 h.fin).1
  · exact h.grp.lt
  · exact ((h.grp.own k hk).lt b hb).2

theorem FinW.keep {w w' : World} {fb mb : Nat} {sv : Value} {nx : Nat} {win dep : Int} {g : Nat → Int} {es : Array MapEntry} {clock : Nat} {F : Int × Int × Int → Value} (h : FinW w fb mb sv nx win dep g es clock F) (hk : ∀ b, ffeet fb mb F b → w'.heap[b]? = w.heap[b]?) :
    FinW w' fb mb sv nx win dep g es clock F :=
  ⟨(hk fb (.inl rfl)).trans h.fin, h.grp.keep (hk mb (.inr (.inl rfl))) (fun k b hok hb _ => hk b (.inr (.inr ⟨k, hok, hb⟩)))⟩

/-- a finder and the pieces so far, apart -/
structure Pair (w : World) (wr : World) (fb mb : Nat) (sv : Value) (nx : Nat) (win dep : Int) (g : Nat → Int) (v : Value) (pre : List (Nat × Nat × Int)) (es : Array MapEntry) (clock : Nat) (F : Int × Int × Int → Value) : Prop where
  fin : FinW wr fb mb sv nx win dep g es clock F
  own : wr.ownsRow w.heap.size 37 3 v pre.length (rowc pre)
  new : ∀ b, ffeet fb mb F b → w.heap.size ≤ b
  off : ∀ b, v.ownBlock = some b → ¬ ffeet fb mb F b
  bel : Below w.heap.size w wr

/-- the finder has learnt -/
theorem Pair.learnt {w wr w1 : World} {fb mb : Nat} {sv : Value} {nx nx' : Nat} {win dep : Int} {g : Nat → Int} {v : Value} {pre : List (Nat × Nat × Int)} {es es' : Array MapEntry} {clock clock' : Nat} {F F' : Int × Int × Int → Value}
    (h : Pair w wr fb mb sv nx win dep g v pre es clock F) (hf : FinW w1 fb mb sv nx' win dep g es' clock' F') (ht : Foot wr w1 (ffeet fb mb F)) (hs : ∀ b, ffeet fb mb F' b → ffeet fb mb F b ∨ wr.heap.size ≤ b) : Pair w w1 fb mb sv nx' win dep g v pre es' clock' F' :=
  ⟨hf, own_keep h.own (fun b hb hlt => ht.block b hlt (h.off b hb)), fun b hb => (hs b hb).elim (h.new b) (fun q => Nat.le_trans h.bel.size q),
   fun b hb hq => (hs b hq).elim (h.off b hb) (fun q => by have := (h.own.lt b hb).2; omega), h.bel.trans (ht.below h.bel.size (fun b hlt hq => by have := h.new b hq; omega))⟩

theorem Pair.below {w wr w1 : World} {fb mb : Nat} {sv : Value} {nx : Nat} {win dep : Int} {g : Nat → Int} {v : Value} {pre : List (Nat × Nat × Int)} {es : Array MapEntry} {clock : Nat} {F : Int × Int × Int → Value}
    (h : Pair w wr fb mb sv nx win dep g v pre es clock F) (hb : Below wr.heap.size wr w1) : Pair w w1 fb mb sv nx win dep g v pre es clock F :=
  ⟨h.fin.below hb, row_below h.own hb, h.new, h.off, h.bel.trans (hb.mono h.bel.size)⟩

/-- a piece more -/
theorem Pair.grown {w wr w1 : World} {fb mb : Nat} {sv : Value} {nx : Nat} {win dep : Int} {g : Nat → Int} {v v' : Value} {pre : List (Nat × Nat × Int)} {es : Array MapEntry} {clock : Nat} {F : Int × Int × Int → Value} {x : Nat × Nat × Int}
    (h : Pair w wr fb mb sv nx win dep g v pre es clock F) (hown : w1.ownsRow w.heap.size 37 3 v' (pre.length + 1) (rowc pre ++ [.int .i64 x.1, .int .i64 x.2.1, .int .u8 x.2.2])) (hg : wr.grownBy w1 v.ownBlock) (hat : v'.ownBlock = v.ownBlock ∨ v'.ownBlock = some wr.heap.size) :
    Pair w w1 fb mb sv nx win dep g v' (pre ++ [x]) es clock F := by
  refine ⟨h.fin.keep (fun b hb => hg.block b (h.fin.feet_lt b hb) (fun q => h.off b q.symm hb)), ?_, h.new, fun b hb hq => ?_, h.bel.grown hg h.bel.size (fun b hb => (h.own.lt b hb).1)⟩
  · rw [List.length_append, rowc_append]; exact hown
  · rcases hat with q | q
    · exact h.off b (q.symm.trans hb) hq
    · rw [q] at hb; cases hb
      have := h.fin.feet_lt _ hq; omega

set_option maxRecDepth 100000 in
set_option maxHeartbeats 2000000 in
theorem pieces_any (a : Option Addr) (n cap : Nat) (g : Nat → Int) (win dep : Nat) (w : World) (ht : Txt w a n g) (hn : n ≤ 1048576) (hcap : n ≤ cap) (hcap2 : cap ≤ maxLen) (hw1 : 1 ≤ win) (hw : win ≤ 32768) (hd : dep ≤ 4096) (hg : ∀ i, i < n → 0 ≤ g i ∧ g i ≤ 255) :
    Calls Try.prog 11 #[.slice a n cap, .int .i64 win, .int .i64 dep] w (Got 37 w (pieces g n win dep)) := by
  obtain ⟨R, hR⟩ : ∃ R, R = pieces g n win dep := ⟨_, rfl⟩
  rw [← hR]
  have HR := Lib.hid hR
  have HT := Lib.hid ht
  have HG := Lib.hid hg
  obtain ⟨i0, hi, hz0, hz1, hz2⟩ := info_parts info37
  have d1 : decide ((win : Int) < 1) = false := by simp; omega
  have d2 : decide (32768 < (win : Int)) = false := by simp; omega
  have d3 : decide ((dep : Int) < 0) = false := by simp
  have d4 : decide (4096 < (dep : Int)) = false := by simp; omega
  have d5 : decide (1048576 < (n : Int)) = false := by simp; omega
  have HC2 := Lib.hid hcap2
  have hmm := @run_makeMap Try.prog
  clear hR ht hg hcap2
  go_enter Try.func11, Try.ntmps11
  go_wp2_with fail
  go_loopw [9, 10] (fun v i wr => ∃ (j nx : Nat) (pre : List (Nat × Nat × Int)) (es : Array MapEntry) (clock : Nat) (F : Int × Int × Int → Value), j ≤ n ∧ pre.length ≤ j ∧ nx ≤ j ∧ i = .int .i64 j ∧
      Pair w wr (w.heap.size + 1) w.heap.size (.slice a n cap) nx win dep g v pre es clock F ∧ Hid (R = pre ++ ps g n win dep (n - j) j)) (fun _ i _ => n - (intOf i).toNat)
  case atStart =>
    refine ⟨0, 0, [], #[], 0, fun _ => .slice none 0 0, Nat.zero_le _, Nat.le_refl _, Nat.le_refl _, rfl, ⟨fin_new w _ _ _ g, World.ownsRow_nil _ _ _ _, fun b hb => ?_, fun b hb => (by cases hb), ?_⟩, Lib.hid HR.out⟩
    · rcases feet_none _ _ b hb with rfl | rfl <;> omega
    · exact ((Below.refl _ w).alloc (Nat.le_refl _) _).alloc (by simp) _
  case round =>
    obtain ⟨j, nx, pre, es, clock, F, hj, hpl, hnx, rfl, hpair, hR⟩ := hrel
    clear HR hmm
    by_cases hlt : j < n
    · obtain ⟨f, hf⟩ : ∃ f, n - j = f + 1 := ⟨n - j - 1, by omega⟩
      have hst := hR.out
      rw [hf] at hst
      unfold ps at hst
      rw [if_pos hlt] at hst
      have hoff : Off a (ffeet (w.heap.size + 1) w.heap.size F) := fun b off e q => by
        obtain ⟨b', off', e', hb', _⟩ := HT.out.pos (by omega)
        rw [e] at e'; cases e'
        have := hpair.new _ q; omega
      have HL := Lib.hid (learn_any (w.heap.size + 1) w.heap.size a n cap nx j win dep g es clock F wr hpair.fin (HT.out.below hpair.bel) hoff HG.out hn hcap HC2.out (by omega) (by omega))
      have HP := Lib.hid hpair
      have HS := Lib.hid hst
      have HF := Lib.hid hf
      clear hst hf hpair hR hoff
      go_wp2_with fail
      refine HL.out.mono ?_
      rintro e w1 ⟨rfl, es1, clock1, F1, hf1, hft1, hs1⟩
      have HP1 := Lib.hid (HP.out.learnt hf1 hft1 hs1)
      clear hf1 hft1 hs1 HP HL
      go_wp2_with fail
      have hA := piece_any (w.heap.size + 1) w.heap.size j (max nx (min j (n - 2))) win dep a n cap g es1 clock1 F1 w1 hn hlt hcap HC2.out hw hd HG.out HP1.out.fin (fun h => by omega) (HT.out.below HP1.out.bel)
      simp only [pv] at hA
      have hfit := pc_fits g n win dep j
      have hst := HS.out
      generalize pc g n win dep j = p at hst hA hfit
      obtain ⟨pl, pd⟩ := p
      dsimp only at hst hfit hA
      obtain ⟨hf1, hf2, hf3⟩ := hfit
      generalize byt g j (pl, pd) = c at hst hA
      have HA := Lib.hid hA
      have HS2 := Lib.hid hst
      clear hA hst HS
      refine HA.out.mono ?_
      rintro e w2 ⟨rfl, hb2⟩
      have HP2 := Lib.hid (HP1.out.below hb2)
      clear hb2 HP1 HA
      have hpl' : pre.length ≤ 1048576 := by omega
      go_wp2_with (at_builtin; refine wpList_append_own_at _ rfl _ _ 24 rfl w.heap.size 37 i0 (.agg #[.int .i64 0, .int .i64 0, .int .u8 0]) 3 24 Try.underlying24 hi hz0 hz1 hz2 rfl (by decide) _ _ _ rfl ((HP2.out.own.alloc _).alloc _) ⟨w2.heap.size + 1, 0, none⟩ 1 1 [.int .i64 pl, .int .i64 pd, .int .u8 c] rfl rfl ?c1 ?c2 ?c3 ?c4 ?c5 ?_)
      case c1 => exact new3 _ _ _ _ _ _
      case c2 => exact one3 _ _ _
      case c3 => unfold maxLen; omega
      case c4 => omega
      case c5 => have := HP2.out.bel.size; simp; omega
      intro v' w3 hown3 hgrow _ hat3
      have hk : w3.heap[w2.heap.size]? = some (.cells #[.int .i64 pl, .int .i64 pd, .int .u8 c] 37 (0, 0)) := by
        rw [hgrow.block w2.heap.size (by simp; omega) (fun q => by have := (HP2.out.own.lt _ q.symm).2; omega), Below.heap_alloc _ _ _ (by simp)]
        exact heap_alloc_new _ _
      obtain ⟨k0, -, -, -, -⟩ := cells3 hk
      have HP3 := Lib.hid (Pair.grown (x := (pl, pd, c)) (HP2.out.below (((Below.refl _ w2).alloc (Nat.le_refl _) _).alloc (by simp) _)) hown3 hgrow (by simpa using hat3))
      obtain ⟨mx, hmx⟩ : ∃ mx, mx = max 1 pl := ⟨_, rfl⟩
      have hmi : max 1 (pl : Int) = (mx : Int) := by omega
      have hm1 : 1 ≤ mx := by omega
      have hm2 : mx ≤ n - j := by omega
      have HM := Lib.hid hmx
      clear hown3 hgrow hk HP2 hmx hat3
      go_wp2
      go_roundw
      case rel =>
        refine ⟨j + mx, _, _, _, _, _, by omega, by simp; omega, by omega, by go_num, HP3.out, Lib.hid ?_⟩
        rw [HS2.out, HM.out, List.append_assoc]
        congr 1
        rw [ps_fuel g n win dep (n - (j + max 1 pl)) f (j + max 1 pl) (Nat.le_refl _) (by have := HF.out; omega)]
        rfl
      case measure => simp [intOf]; omega
    · obtain rfl : j = n := by omega
      have hR2 := hR.out
      rw [Nat.sub_self] at hR2
      have HR2 := Lib.hid hR2
      have HP := Lib.hid hpair
      clear hR hR2 hpair
      go_wp2
      go_ret2
      have hf : R = pre := by rw [HR2.out]; simp [ps]
      exact ⟨_, rfl, by rw [hf]; exact HP.out.own, HP.out.bel⟩

theorem pieces_bad (a : Option Addr) (n cap : Nat) (win dep : Int) (w : World) (hn : n ≤ maxLen) (h : win < 1 ∨ 32768 < win ∨ dep < 0 ∨ 4096 < dep) :
    Calls Try.prog 11 #[.slice a n cap, .int .i64 win, .int .i64 dep] w fun e w' => e = .returned (.tuple #[.slice none 0 0, .int .i64 1]) ∧ w = w' := by
  unfold maxLen at hn
  by_cases h1 : win < 1
  · go_enter Try.func11, Try.ntmps11
    go_wp2
    go_ret2
    exact ⟨rfl, rfl⟩
  · by_cases h2 : 32768 < win
    · go_enter Try.func11, Try.ntmps11
      go_wp2
      go_ret2
      exact ⟨rfl, rfl⟩
    · by_cases h3 : dep < 0
      · go_enter Try.func11, Try.ntmps11
        go_wp2
        go_ret2
        exact ⟨rfl, rfl⟩
      · have h4 : 4096 < dep := by omega
        clear h
        go_enter Try.func11, Try.ntmps11
        go_wp2
        go_ret2
        exact ⟨rfl, rfl⟩

theorem pieces_long (a : Option Addr) (n cap : Nat) (win dep : Int) (w : World) (hn : n ≤ maxLen) (hl : 1048576 < n) (h1 : 1 ≤ win) (h2 : win ≤ 32768) (h3 : 0 ≤ dep) (h4 : dep ≤ 4096) :
    Calls Try.prog 11 #[.slice a n cap, .int .i64 win, .int .i64 dep] w fun e w' => e = .returned (.tuple #[.slice none 0 0, .int .i64 6]) ∧ w = w' := by
  unfold maxLen at hn
  go_enter Try.func11, Try.ntmps11
  go_wp2
  go_ret2
  exact ⟨rfl, rfl⟩

end Go.Proofs.Ytinmfkbppgjcpaa.Lz
