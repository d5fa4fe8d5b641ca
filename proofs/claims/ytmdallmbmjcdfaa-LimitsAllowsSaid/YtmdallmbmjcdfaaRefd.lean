/- The contracts of the reference's Limiter: Allow, where all buckets are taken. -/
import Derived.Test.YtmdallmbmjcdfaaRefc
set_option linter.unusedVariables false
namespace Go.Proofs.Ytmdallmbmjcdfaa.Rf
open Go.RowKit Go.Proofs.Ytmdallmbmjcdfaa.Lm

theorem own_empty {w : World} {g : Nat} (h : w.heap[g]? = some (.cells #[] 71 (0, 0))) : w.ownsRow 0 71 3 (.slice (some ⟨g, 0, none⟩) 0 0) 0 [] :=
  ⟨rfl, .inr ⟨g, 0, #[], rfl, Nat.zero_le _, h, Nat.le_refl _, by unfold maxLen; omega, rfl, rfl⟩⟩

theorem RefW.cellOf {w : World} {c : Nat} {s : LS} {g vc : Nat} (h : RefW w c (.slice (some ⟨g, 0, none⟩) s.l.length vc) s) {j : Nat} {u : Value} (hj : (row s.l)[j]? = some u) : w.cell? ⟨g, j, none⟩ = some u := by
  rcases h.2.2 with ⟨q, _⟩ | ⟨g', cap, cur, hv, _, hg, hc, _, hsz, htk⟩
  · cases q
  · cases hv
    have hlt : j < s.l.length * 3 := by rw [← row_length]; exact (List.getElem?_eq_some_iff.1 hj).1
    rw [← htk, List.getElem?_take_of_lt (by omega)] at hj
    simp only [World.cell?, hg]; simpa using hj

theorem row_append (a b : List Bk) : row (a ++ b) = row a ++ row b := by simp [row]
theorem row_one {l : List Bk} : ∀ u ∈ row l, u.oneCell' = true := by
  intro u hu
  simp only [row, List.mem_flatMap, c3] at hu
  obtain ⟨e, _, he⟩ := hu
  simp at he
  rcases he with rfl | rfl | rfl <;> rfl

theorem row_drop (l : List Bk) (n j : Nat) : (row (l.drop n))[j]? = (row l)[n * 3 + j]? := by
  induction l generalizing n with
  | nil => simp [row]
  | cons x l ih =>
    cases n with
    | zero => simp
    | succ n =>
      rw [List.drop_succ_cons, ih]
      simp only [row, List.flatMap_cons]
      rw [List.getElem?_append_right (by simp [c3]; omega)]
      congr 1
      simp [c3]; omega

theorem row_take (l : List Bk) (n j : Nat) {u : Value} (h : (row (l.take n))[j]? = some u) : (row l)[j]? = some u := by
  have : row l = row (l.take n) ++ row (l.drop n) := by rw [← row_append, List.take_append_drop]
  rw [this, List.getElem?_append_left (List.getElem?_eq_some_iff.1 h).1]; exact h

/-- what an append reads of the row, from a place on -/
theorem RefW.from {w W : World} {c : Nat} {s : LS} {g vc : Nat} {o : Obj} (h : RefW w c (.slice (some ⟨g, 0, none⟩) s.l.length vc) s) (hW : W.heap = w.heap.push o) (n : Nat) (hn : n < vc) :
    ∀ j u, (row (s.l.drop n))[j]? = some u → W.cell? ((⟨g, n * 3, none⟩ : Addr).add j) = some u := by
  intro j u hj
  rw [row_drop] at hj
  have hc := h.cellOf hj
  have hadd : ((⟨g, n * 3, none⟩ : Addr).add j) = ⟨g, n * 3 + j, none⟩ := by
    unfold Addr.add; split
    · subst j; rfl
    · simp
  have hlt : g < w.heap.size := h.lt g (.inr rfl)
  rw [hadd]
  simp only [World.cell?, hW, Array.getElem?_push, if_neg (show ¬ g = w.heap.size by omega)] at hc ⊢
  exact hc

theorem grew_facts {c : Nat} {sv v' : Value} {s : LS} {l' : List Bk} {w2 W w4 : World} {o : Obj} {N : Nat} (h2 : RefW w2 c sv s) (hW1 : W.heap = w2.heap.push o) (hW2 : W.os = w2.os) (hW3 : W.tape = w2.tape) (hW4 : W.output = w2.output)
    (hown : w4.ownsRow 0 71 3 v' N (row l')) (hgrow : W.grownBy w4 (some w2.heap.size)) (hat : v'.ownBlock = some w2.heap.size ∨ v'.ownBlock = some W.heap.size) (hN : N = l'.length) :
    Grew c sv v' s l' w2 w4 ∧ v'.ownBlock ≠ some c := by
  subst hN
  have hsz : W.heap.size = w2.heap.size + 1 := by rw [hW1]; simp
  have hcl := h2.lt c (.inl rfl)
  have hfw : Foot w2 W (rfeet c sv) := ⟨hW2, hW3, hW4, by omega, fun k hk _ => by rw [hW1, Array.getElem?_push, if_neg (by omega)]⟩
  have hf4 : Foot w2 w4 (rfeet c sv) := ⟨hgrow.os.trans hW2, hgrow.tape.trans hW3, hgrow.output.trans hW4, by have := hgrow.size; omega, fun k hk _ => by
    rw [hgrow.block k (by omega) (fun q => by cases q; omega), hW1, Array.getElem?_push, if_neg (by omega)]⟩
  have hcb : W.heap[c]? = w2.heap[c]? := by rw [hW1, Array.getElem?_push, if_neg (by omega)]
  refine ⟨⟨?_, hown, hf4, ?_⟩, ?_⟩
  · rw [hgrow.block c (by omega) (fun q => by cases q; omega), hcb]; exact h2.1
  · rcases hat with hat | hat
    · exact .inr ⟨_, hat, Nat.le_refl _⟩
    · exact .inr ⟨_, hat, by omega⟩
  · rcases hat with hat | hat <;> (rw [hat]; intro q; cases q; omega)

theorem foot_hop {w w5 w6 : World} {c : Nat} {sv sv5 : Value} (h1 : Foot w w5 (rfeet c sv)) (h2 : Foot w5 w6 (rfeet c sv5)) (hl : sv5.ownBlock = sv.ownBlock ∨ ∃ g, sv5.ownBlock = some g ∧ w.heap.size ≤ g) : Foot w w6 (rfeet c sv) := by
  refine h1.trans h2 ?_
  rintro k hk (rfl | q)
  · exact .inl rfl
  · rcases hl with hl | ⟨g, hl, hg⟩
    · exact .inr (hl.symm.trans q)
    · rw [hl] at q; cases q; omega

theorem hop_lies {w w5 : World} {sv sv5 sv6 : Value} {f : Nat → Prop} (h1 : Foot w w5 f) (hl : sv5.ownBlock = sv.ownBlock ∨ ∃ g, sv5.ownBlock = some g ∧ w.heap.size ≤ g) (h2 : sv6.ownBlock = sv5.ownBlock ∨ ∃ g, sv6.ownBlock = some g ∧ w5.heap.size ≤ g) : sv6.ownBlock = sv.ownBlock ∨ ∃ g, sv6.ownBlock = some g ∧ w.heap.size ≤ g := by
  rcases h2 with h2 | ⟨g, h2, h3⟩
  · rw [h2]; exact hl
  · exact .inr ⟨g, h2, Nat.le_trans h1.size h3⟩

set_option maxHeartbeats 1600000 in
set_option maxRecDepth 100000 in
theorem allow_full (c : Nat) (sv : Value) (s : LS) (k : ByteArray) (now : Int) (w : World) (hw : RefW w c sv s) (hs : Ok s) (hf : find s.l k = none) (hne : (s.l.length : Int) = s.keys) :
    Calls Try.prog 28 #[.pointer (some ⟨c, 0, none⟩), .string k, .int .i64 now] w fun e w' => e = .returned (.bool (decide (0 < left s k now))) ∧ ∃ sv', RefW w' c sv' (allow s k now) ∧ Foot w w' (rfeet c sv) ∧ (sv'.ownBlock = sv.ownBlock ∨ ∃ g, sv'.ownBlock = some g ∧ w.heap.size ≤ g) := by
  have hkeys := hs.keys1
  obtain ⟨g, hsv⟩ : ∃ g vc, sv = .slice (some ⟨g, 0, none⟩) s.l.length vc ∧ s.l.length ≤ vc := by
    rcases hw.2.2 with ⟨_, q⟩ | ⟨g, cap, cur, hv, _, _, hc, _⟩
    · omega
    · exact ⟨g, cap, hv, hc⟩
  obtain ⟨vc, rfl, hvc⟩ := hsv
  obtain ⟨d0, d1, d2, d3, d4, dr, dlt⟩ := cells5 hw.1
  obtain ⟨i0, hi, hz0, hz1, hz2⟩ := info_parts info71
  have hlb := left_bd hs k now
  have hck := ref_clock hs now
  have hcl := clock_bd hs now
  have hroom : roomed s k = s.l.tail := by unfold roomed; rw [if_pos ⟨hf, hne⟩]
  have hfin : allow s k now = { s with l := drop s.l.tail k ++ [(k, max (left s k now - 1) 0, clock s now)], now := clock s now } := by simp [allow, hroom]
  have hft : find s.l.tail k = none := Lm.find_none.2 fun e he => Lm.find_none.1 hf e (List.mem_of_mem_tail he)
  rw [drop_none hft] at hfin
  rw [← List.drop_one] at hfin
  obtain ⟨l2, hld⟩ : ∃ l2, l2 = s.l.drop 1 := ⟨_, rfl⟩
  rw [← hld] at hfin
  have hlen2 : l2.length + 1 = s.l.length := by rw [hld, List.length_drop]; omega
  have HE := Lib.hid hlen2
  have HL2 := Lib.hid hld
  have H0 := Lib.hid (left_any c _ s k now w hw hs)
  generalize left s k now = n at *
  generalize clock s now = cl at *
  have HR := Lib.hid hfin
  have HC := Lib.hid hck
  have HO := Lib.hid hs
  have HW := Lib.hid hw
  have HZ := Lib.hid hf
  have HCL := Lib.hid hcl
  obtain ⟨hl1, hl2⟩ := hlb
  have hf2 := hs.full2
  have hlen : s.l.length ≤ 1000 := by have := hs.count; have := hs.keys2; omega
  have hlen1 : 1 ≤ s.l.length := by omega
  have hbq : ((s.l.length : Int) == s.keys) = true := by simp; exact hne
  clear hw hs hfin hck hf hcl hroom hne hkeys hft hld hlen2
  go_enter Try.func28, Try.ntmps28
  go_wp2_with fail
  refine H0.out.mono ?_
  rintro e w1 ⟨rfl, q, rfl⟩
  go_wp2_with (first | (go_at_call 31; refine (time_any c s.now now _ (by exact d3)).mono ?_; rintro e w' ⟨rfl, rfl⟩; rw [HC.out]))
  have hw2 : RefW ((w.drewN q).setCell ⟨c, 3, none⟩ (.int .i64 cl)) c (.slice (some ⟨g, 0, none⟩) s.l.length vc) { s with now := cl } := RefW.tick (w := w.drewN q) HW.out cl
  have hf2' : Foot w ((w.drewN q).setCell ⟨c, 3, none⟩ (.int .i64 cl)) (rfeet c (.slice (some ⟨g, 0, none⟩) s.l.length vc)) := Foot.setCell (Foot.drewN (Foot.refl w _) q) (.inr (.inl rfl)) _
  generalize (w.drewN q).setCell ⟨c, 3, none⟩ (.int .i64 cl) = w2 at hw2 hf2' ⊢
  have hok2 := HO.out.tick (t := cl) HCL.out.2.1 HCL.out.2.2
  have H30 : Hid (Calls Try.prog 30 #[.pointer (some ⟨c, 0, none⟩), .string k] w2 fun e w' => e = .returned (.int .i64 (-1)) ∧ w2 = w') := find_none c _ { s with now := cl } k w2 hw2 hok2 HZ.out
  obtain ⟨e0, e1, e2, e3, e4, er, elt⟩ := cells5 hw2.1
  dsimp only at e0 e1 e2 e3 e4
  have HW2 := Lib.hid hw2
  have HF2 := Lib.hid hf2'
  have HO2 := Lib.hid hok2
  clear hw2 hf2' hok2 d0 d1 d2 d3 d4 dr dlt H0
  refine H30.out.mono ?_
  rintro e w' ⟨rfl, rfl⟩
  go_wp2
  go_quiet (fail)
  clear hbq
  obtain ⟨w3, hw3⟩ : ∃ w3, w3 = w2.drewN nq := ⟨_, rfl⟩
  have f3 : w3.cell? ⟨c, 3, none⟩ = some (.int .i64 cl) := by rw [hw3]; exact e3
  have f4 : w3.cell? ⟨c, 4, none⟩ = some (.slice (some ⟨g, 0, none⟩) s.l.length vc) := by rw [hw3]; exact e4
  have fr : ∀ o, w3.frozen? ⟨c, o, none⟩ = false := by rw [hw3]; exact er
  have flt : c < w3.heap.size := by rw [hw3]; exact elt
  have hrow : RefW w3 c (.slice (some ⟨g, 0, none⟩) s.l.length vc) { s with now := cl } := by rw [hw3]; exact HW2.out
  have HR3 := Lib.hid hrow
  have HF3 : Hid (Foot w w3 (rfeet c (.slice (some ⟨g, 0, none⟩) s.l.length vc))) := Lib.hid (by rw [hw3]; exact Foot.drewN HF2.out nq)
  rw [← hw3]
  clear hw3 hrow e0 e1 e2 e3 e4 er elt HF2 HW2 H30
  have HN : Hid (∀ (W : World) (o : Obj), W.heap = w3.heap.push o → ∀ j u, (row l2)[j]? = some u → W.cell? ((if vc = 1 then (⟨g, 0, none⟩ : Addr) else ⟨g, 3, none⟩).add j) = some u) := by
    refine Lib.hid fun W o hW j u hj => ?_
    by_cases hv : vc = 1
    · rw [show l2 = [] from List.eq_nil_of_length_eq_zero (by have := HE.out; omega)] at hj; simp [row] at hj
    · rw [if_neg hv]
      rw [HL2.out] at hj
      exact HR3.out.from hW 1 (by omega) j u hj
  go_wp2_with (at_builtin; go_loud (refine wpList_append_own_at _ rfl (.tmp 56) (.tmp 61) 65 rfl 0 71 i0 (.agg #[.string .empty, .int .i64 0, .int .i64 0]) 3 32 Try.underlying65 hi hz0 hz1 hz2 rfl (by decide) (.slice (some ⟨w3.heap.size, 0, none⟩) 0 0) 0 [] rfl (own_empty (heap_alloc_new _ _)) (if vc = 1 then ⟨g, 0, none⟩ else ⟨g, 3, none⟩) (s.l.length - 1) (vc - 1) (row l2) (by simp [Act.eval]; split <;> rfl) (by have := HE.out; rw [row_length]; omega) (by exact HN.out _ _ rfl) row_one (by unfold maxLen; omega) (by omega) (Nat.zero_le _) ?_; intro v' w4 hown hgrow hnil hat; have H4 := grew_facts (W := w3.alloc (.cells #[] 71)) (o := .cells #[] 71) HR3.out rfl rfl rfl rfl hown (by exact hgrow) (by exact hat) (by have := HE.out; omega); obtain ⟨va', vc', hv⟩ := ownsRow_shape H4.1.row; subst hv; clear hown hgrow hnil hat; obtain ⟨g0, g1, g2, g3, g4, gr, glt⟩ := cells5 H4.1.base; have H5 := Lib.hid (H4.1.done H4.2); have H6 := Lib.hid H4.1.lies; clear H4 g0 g1 g2 g3 f3 f4 fr flt; generalize (if vc = 1 then some (⟨g, 0, none⟩ : Addr) else some ⟨g, 3, none⟩) = v61))
  obtain ⟨hw5, hf5⟩ := H5.out
  generalize w4.setCell ⟨c, 4, none⟩ (.slice va' l2.length vc') = w5 at hw5 hf5 ⊢
  have HF5 := Lib.hid (HF3.out.trans hf5 (fun _ _ h => h))
  have HW5 := Lib.hid hw5
  have HL5 := Lib.hid (H6.out.imp id (fun ⟨g, h1, h2⟩ => ⟨g, h1, Nat.le_trans HF3.out.size h2⟩) : (Value.slice va' l2.length vc').ownBlock = (Value.slice (some ⟨g, 0, none⟩) s.l.length vc).ownBlock ∨ ∃ g, (Value.slice va' l2.length vc').ownBlock = some g ∧ w.heap.size ≤ g)
  obtain ⟨e0, e1, e2, f3, f4, fr, flt⟩ := cells5 hw5.1
  dsimp only at f3 f4
  clear hw5 hf5 H5 H6 g4 gr glt e0 e1 e2 HN HR3 HF3 HO2 HZ HW HO HL2 HCL HC
  clear w4
  have hlen9 : l2.length ≤ 999 := by have := HE.out; omega
  have hwr : IntKind.i64.wrap (n - 1) = n - 1 := by rw [IntKind.wrap_i64]; omega
  go_region_law (refine step_append_at rfl (.tmp 69) (.tmp 79) 65 rfl 0 71 i0 (.agg #[.string .empty, .int .i64 0, .int .i64 0]) 3 32 Try.underlying65 hi hz0 hz1 hz2 rfl (by decide) (.slice va' l2.length vc') l2.length (row l2) (by simp [Act.eval, Act.put]) (by exact (HW5.out.2.alloc _).drew) ⟨w5.heap.size, 0, none⟩ 1 1 [.string k, .int .i64 (max 0 (n - 1)), .int .i64 cl] (by simp [Act.eval, Act.put]) rfl (by exact new3 _ _ _ _ _) (by exact one3 _ _ _) (by unfold maxLen; omega) (by omega) (Nat.zero_le _) ?_; intro v' w6 hown hgrow hat; obtain ⟨va7, vc7, hv⟩ := ownsRow_shape hown; subst hv; have H4 := new_facts HW5.out (by rfl) (by rfl) (by rfl) (by rfl) hown hgrow hat; obtain ⟨g0, g1, g2, g3, g4, gr, glt⟩ := cells5 H4.1.base; clear hown hgrow hat; have H7 := Lib.hid H4; clear H4 g0 g1 g2 g3)
  all_goals
    clear hwr
    go_wp2
    go_ret
    obtain ⟨H, hne⟩ := H7.out
    obtain ⟨k1, k2⟩ := H.done hne
    refine ⟨by simp, .slice va7 (l2.length + 1) vc7, ?_, foot_hop HF5.out k2 HL5.out, ?_⟩
    · rw [HR.out, Int.max_comm (n - 1) 0]
      exact k1
    · exact hop_lies HF5.out HL5.out H.lies
end Go.Proofs.Ytmdallmbmjcdfaa.Rf
