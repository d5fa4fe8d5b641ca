/- The contracts of the reference's Limiter: Allow, where the key has a bucket. -/
import Derived.Test.YtmdallmbmjcdfaaRefd
import Derived.Deep.CutRange
import Derived.Deep.CutBlock
set_option linter.unusedVariables false
set_option linter.unusedSimpArgs false
namespace Go.Proofs.Ytmdallmbmjcdfaa.Rf
open Go.RowKit Go.Proofs.Ytmdallmbmjcdfaa.Lm

theorem first_facts {c : Nat} {sv v1 : Value} {s : LS} {w2 W w4 : World} {o : Obj} {N i : Nat} {xs : List Value} (h2 : RefW w2 c sv s) (hW1 : W.heap = w2.heap.push o) (hW2 : W.os = w2.os) (hW3 : W.tape = w2.tape) (hW4 : W.output = w2.output)
    (hown : w4.ownsRow 0 71 3 v1 N xs) (hgrow : W.grownBy w4 (some w2.heap.size)) (hat : v1.ownBlock = some w2.heap.size ∨ v1.ownBlock = some W.heap.size) (hN : N = i) :
    RefW w4 c sv s ∧ w4.ownsRow 0 71 3 v1 i xs ∧ Foot w2 w4 (fun _ => False) ∧ (∃ g1, v1.ownBlock = some g1 ∧ w2.heap.size ≤ g1) := by
  subst hN
  have hsz : W.heap.size = w2.heap.size + 1 := by rw [hW1]; simp
  have hf4 : Foot w2 w4 (fun _ => False) := ⟨hgrow.os.trans hW2, hgrow.tape.trans hW3, hgrow.output.trans hW4, by have := hgrow.size; omega, fun k hk _ => by
    rw [hgrow.block k (by omega) (fun q => by cases q; omega), hW1, Array.getElem?_push, if_neg (by omega)]⟩
  refine ⟨h2.keep fun k _ hk => hf4.block k hk (fun q => q), hown, hf4, ?_⟩
  rcases hat with hat | hat
  · exact ⟨_, hat, Nat.le_refl _⟩
  · exact ⟨_, hat, by omega⟩

theorem second_facts {c : Nat} {sv v1 v2 : Value} {s : LS} {l' : List Bk} {w2 w4 w5 : World} {N : Nat} (h2 : RefW w2 c sv s) (h4 : RefW w4 c sv s) (hf : Foot w2 w4 (fun _ => False)) (hg : ∃ g1, v1.ownBlock = some g1 ∧ w2.heap.size ≤ g1)
    (hown : w5.ownsRow 0 71 3 v2 N (row l')) (hgrow : w4.grownBy w5 v1.ownBlock) (hat : v2.ownBlock = v1.ownBlock ∨ v2.ownBlock = some w4.heap.size) (hN : N = l'.length) :
    Grew c sv v2 s l' w2 w5 ∧ v2.ownBlock ≠ some c := by
  subst hN
  obtain ⟨g1, e1, hg1⟩ := hg
  rw [e1] at hgrow hat
  have hs := hf.size
  have hcl := h2.lt c (.inl rfl)
  refine ⟨⟨?_, hown, ⟨hgrow.os.trans hf.os, hgrow.tape.trans hf.tape, hgrow.output.trans hf.output, Nat.le_trans hf.size hgrow.size, fun k hk _ => ?_⟩, ?_⟩, ?_⟩
  · rw [hgrow.block c (by omega) (fun q => by cases q; omega)]; exact h4.1
  · rw [hgrow.block k (by omega) (fun q => by cases q; omega)]; exact hf.block k hk (fun q => q)
  · rcases hat with hat | hat
    · exact .inr ⟨_, hat, hg1⟩
    · exact .inr ⟨_, hat, hs⟩
  · rcases hat with hat | hat <;> (rw [hat]; intro q; cases q; omega)

theorem RefW.from0 {w : World} {c : Nat} {s : LS} {g vc : Nat} (h : RefW w c (.slice (some ⟨g, 0, none⟩) s.l.length vc) s) (n : Nat) :
    ∀ j u, (row (s.l.drop n))[j]? = some u → w.cell? ((⟨g, n * 3, none⟩ : Addr).add j) = some u := by
  intro j u hj
  rw [row_drop] at hj
  have hc := h.cellOf hj
  have hadd : ((⟨g, n * 3, none⟩ : Addr).add j) = ⟨g, n * 3 + j, none⟩ := by
    unfold Addr.add; split
    · subst j; rfl
    · simp
  rw [hadd]; exact hc

theorem RefW.upto {w W : World} {c : Nat} {s : LS} {g vc : Nat} {o : Obj} (h : RefW w c (.slice (some ⟨g, 0, none⟩) s.l.length vc) s) (hW : W.heap = w.heap.push o) (n : Nat) :
    ∀ j u, (row (s.l.take n))[j]? = some u → W.cell? ((⟨g, 0, none⟩ : Addr).add j) = some u := by
  intro j u hj
  have hc := h.cellOf (row_take _ _ _ hj)
  have hadd : ((⟨g, 0, none⟩ : Addr).add j) = ⟨g, j, none⟩ := by
    unfold Addr.add; split
    · subst j; rfl
    · simp
  have hlt : g < w.heap.size := h.lt g (.inr rfl)
  rw [hadd]
  simp only [World.cell?, hW, Array.getElem?_push, if_neg (show ¬ g = w.heap.size by omega)] at hc ⊢
  exact hc

theorem keepH {w w' : World} {c : Nat} {sv : Value} {s : LS} (h : RefW w c sv s) (e : w'.heap = w.heap := by rfl) : RefW w' c sv s := h.keep fun k _ _ => by rw [e]
theorem keepF {w w1 w' : World} (h : Foot w w1 (fun _ => False)) (e1 : w'.heap = w1.heap := by rfl) (e2 : w'.os = w1.os := by rfl) (e3 : w'.tape = w1.tape := by rfl) (e4 : w'.output = w1.output := by rfl) : Foot w w' (fun _ => False) :=
  ⟨e2.trans h.os, e3.trans h.tape, e4.trans h.output, by rw [e1]; exact h.size, fun k hk hn => by rw [e1]; exact h.block k hk hn⟩

set_option maxHeartbeats 1600000 in
set_option maxRecDepth 100000 in
theorem allow_there (c : Nat) (sv : Value) (s : LS) (k : ByteArray) (now : Int) (w : World) (hw : RefW w c sv s) (hs : Ok s) (bk : Int × Int) (hf : find s.l k = some bk) :
    Calls Try.prog 28 #[.pointer (some ⟨c, 0, none⟩), .string k, .int .i64 now] w fun e w' => e = .returned (.bool (decide (0 < left s k now))) ∧ ∃ sv', RefW w' c sv' (allow s k now) ∧ Foot w w' (rfeet c sv) ∧ (sv'.ownBlock = sv.ownBlock ∨ ∃ g, sv'.ownBlock = some g ∧ w.heap.size ≤ g) := by
  obtain ⟨i, hip, hib, hdr⟩ := find_pos hf
  have hil := (List.getElem?_eq_some_iff.1 hip).1
  obtain ⟨g, hsv⟩ : ∃ g vc, sv = .slice (some ⟨g, 0, none⟩) s.l.length vc ∧ s.l.length ≤ vc := by
    rcases hw.2.2 with ⟨_, q⟩ | ⟨g, cap, cur, hv, _, _, hc, _⟩
    · omega
    · exact ⟨g, cap, hv, hc⟩
  obtain ⟨vc, rfl, hvc⟩ := hsv
  obtain ⟨d0, d1, d2, d3, d4, dr, dlt⟩ := cells5 hw.1
  obtain ⟨i0, hi, hz0, hz1, hz2⟩ := info_parts info71
  have hlb := left_bd hs k now
  have hck := ref_clock hs now
  have hcl := clock_bd hs now
  have hroom : roomed s k = s.l := by unfold roomed; rw [if_neg (fun q => by rw [hf] at q; cases q.1)]
  have hfin : allow s k now = { s with l := drop s.l k ++ [(k, max (left s k now - 1) 0, clock s now)], now := clock s now } := by simp [allow, hroom]
  rw [hdr, List.eraseIdx_eq_take_drop_succ] at hfin
  obtain ⟨l2, hld⟩ : ∃ l2, l2 = s.l.take i ++ s.l.drop (i + 1) := ⟨_, rfl⟩
  rw [← hld] at hfin
  have hlen2 : l2.length + 1 = s.l.length := by rw [hld, List.length_append, List.length_take, List.length_drop]; omega
  have HE := Lib.hid hlen2
  have HL2 := Lib.hid hld
  have H0 := Lib.hid (left_any c _ s k now w hw hs)
  generalize left s k now = n at *
  generalize clock s now = cl at *
  have HR := Lib.hid hfin
  have HC := Lib.hid hck
  have HO := Lib.hid hs
  have HW := Lib.hid hw
  have HIP := Lib.hid hip
  have HIB := Lib.hid hib
  have HCL := Lib.hid hcl
  obtain ⟨hl1, hl2⟩ := hlb
  have hf2 := hs.full2
  have hlen : s.l.length ≤ 1000 := by have := hs.count; have := hs.keys2; omega
  clear hw hs hfin hck hf hcl hroom hld hip hib hdr hlen2
  go_enter Try.func28, Try.ntmps28
  go_wp2_with fail
  refine H0.out.mono ?_
  rintro e w1 ⟨rfl, q, rfl⟩
  go_wp2_with (first | (go_at_call 31; refine (time_any c s.now now _ (by exact d3)).mono ?_; rintro e w' ⟨rfl, rfl⟩; rw [HC.out]))
  have hw2 : RefW ((w.drewN q).setCell ⟨c, 3, none⟩ (.int .i64 cl)) c (.slice (some ⟨g, 0, none⟩) s.l.length vc) { s with now := cl } := RefW.tick (w := w.drewN q) HW.out cl
  have hf2' : Foot w ((w.drewN q).setCell ⟨c, 3, none⟩ (.int .i64 cl)) (rfeet c (.slice (some ⟨g, 0, none⟩) s.l.length vc)) := Foot.setCell (Foot.drewN (Foot.refl w _) q) (.inr (.inl rfl)) _
  generalize (w.drewN q).setCell ⟨c, 3, none⟩ (.int .i64 cl) = w3 at hw2 hf2' ⊢
  have hok2 := HO.out.tick (t := cl) HCL.out.2.1 HCL.out.2.2
  have H30 : Hid (Calls Try.prog 30 #[.pointer (some ⟨c, 0, none⟩), .string k] w3 fun e w' => e = .returned (.int .i64 i) ∧ w3 = w') := find_some c _ { s with now := cl } k w3 hw2 hok2 i bk HIP.out HIB.out
  obtain ⟨e0, e1, e2, f3, f4, fr, flt⟩ := cells5 hw2.1
  dsimp only at f3 f4
  have HR3 := Lib.hid hw2
  have HF3 := Lib.hid hf2'
  clear hw2 hf2' hok2 d0 d1 d2 d3 d4 dr dlt H0 e0 e1 e2
  refine H30.out.mono ?_
  rintro e w' ⟨rfl, rfl⟩
  clear H30
  have HN : Hid (∀ (W : World), RefW W c (.slice (some ⟨g, 0, none⟩) s.l.length vc) { s with now := cl } → ∀ j u, (row (s.l.drop (i + 1)))[j]? = some u → W.cell? ((if vc = i + 1 then (⟨g, 0, none⟩ : Addr) else ⟨g, (i + 1) * 3, none⟩).add j) = some u) := by
    refine Lib.hid fun W hW j u hj => ?_
    by_cases hv : vc = i + 1
    · rw [List.drop_eq_nil_of_le (by omega)] at hj; simp [row] at hj
    · rw [if_neg hv]
      exact hW.from0 (i + 1) j u hj
  have hwi : IntKind.i64.wrap ((i : Int) + 1) = ((i + 1 : Nat) : Int) := by rw [IntKind.wrap_i64]; omega
  have hivc : i ≤ vc := by omega
  have hi1 : (i : Int) + 1 ≤ (s.l.length : Int) := by omega
  have hi2 : (0 : Int) ≤ (i : Int) + 1 := by omega
  go_upto_block 0 with fail
  go_cut [] from 22 (fun wc => ∃ va' vc', RefW wc c (.slice va' l2.length vc') { s with l := l2, now := cl } ∧ Foot w wc (rfeet c (.slice (some ⟨g, 0, none⟩) s.l.length vc)) ∧ ((Value.slice va' l2.length vc').ownBlock = (Value.slice (some ⟨g, 0, none⟩) s.l.length vc).ownBlock ∨ ∃ g, (Value.slice va' l2.length vc').ownBlock = some g ∧ w.heap.size ≤ g))
  case first =>
    go_wp2_with fail
    go_region_law (first | (refine step_append_at rfl (.tmp 26) (.tmp 32) 65 rfl 0 71 i0 (.agg #[.string .empty, .int .i64 0, .int .i64 0]) 3 32 Try.underlying65 hi hz0 hz1 hz2 rfl (by decide) (.slice (some ⟨w3.heap.size, 0, none⟩) 0 0) 0 [] (by simp [Act.eval, Act.put]) (by exact own_empty (by exact heap_alloc_new w3 _)) ⟨g, 0, none⟩ i vc (row (s.l.take i)) (by simp [Act.eval, Act.put]) (by rw [row_length, List.length_take]; omega) (by exact HR3.out.upto (W := w3.alloc (.cells #[] 71)) rfl i) row_one (by unfold maxLen; omega) (by omega) (Nat.zero_le _) ?_; intro v1 w4 hown hgrow hat; have H4 := first_facts (i := i) (o := .cells #[] 71) HR3.out (by rfl) (by rfl) (by rfl) (by rfl) hown hgrow hat (by omega); clear hown hgrow hat; obtain ⟨va1, vc1, hv⟩ := ownsRow_shape H4.2.1; subst hv; obtain ⟨g0, g1, g2, g3, g4, gr, glt⟩ := cells5 H4.1.1; have H5 := Lib.hid H4; clear H4 g0 g1 g2 g3) | (refine step_append_at rfl (.tmp 33) (.tmp 40) 65 rfl 0 71 i0 (.agg #[.string .empty, .int .i64 0, .int .i64 0]) 3 32 Try.underlying65 hi hz0 hz1 hz2 rfl (by decide) (.slice va1 i vc1) i ([] ++ row (s.l.take i)) (by simp [Act.eval, Act.put]) (by exact H5.out.2.1) (if vc = i + 1 then ⟨g, 0, none⟩ else ⟨g, (i + 1) * 3, none⟩) (s.l.length - (i + 1)) (vc - (i + 1)) (row (s.l.drop (i + 1))) (by simp [Act.eval, Act.put]; split <;> rfl) (by rw [row_length, List.length_drop]) (by exact HN.out _ H5.out.1) row_one (by unfold maxLen; omega) (by omega) (Nat.zero_le _) ?_; intro v2 w5 hown hgrow hat; rw [List.nil_append, ← row_append, ← HL2.out] at hown; have H6 := second_facts HR3.out (keepH H5.out.1) (keepF H5.out.2.2.1) H5.out.2.2.2 hown hgrow hat (by have := HE.out; omega); clear hown hgrow hat; obtain ⟨va2, vc2, hv⟩ := ownsRow_shape H6.1.row; subst hv; clear g4 gr glt; obtain ⟨g0, g1, g2, g3, g4, gr, glt⟩ := cells5 H6.1.base; have H7 := Lib.hid H6; clear H6 g0 g1 g2 g3))
    all_goals (go_wp2_with fail)
    all_goals
      go_meet
      obtain ⟨H, hne⟩ := H7.out
      obtain ⟨k1, k2⟩ := H.done hne
      exact ⟨va2, vc2, k1, HF3.out.trans k2 (fun _ _ h => h), H.lies.imp id (fun ⟨g, h1, h2⟩ => ⟨g, h1, Nat.le_trans HF3.out.size h2⟩)⟩
  case rest =>
    obtain ⟨va', vc', hw5, hf5, hl5⟩ := hcut
    have HW5 := Lib.hid hw5
    have HF5 := Lib.hid hf5
    have HL5 := Lib.hid hl5
    obtain ⟨e0, e1, e2, f3, f4, fr, flt⟩ := cells5 hw5.1
    dsimp only at f3 f4
    clear hw5 hf5 hl5 e0 e1 e2 HN HR3 HF3 HW HO HL2 HCL HC HIP HIB hwi hivc hi1 hi2 hil hvc
    have hlen9 : l2.length ≤ 999 := by have := HE.out; omega
    go_wp2_with fail
    have hwr : IntKind.i64.wrap (n - 1) = n - 1 := by rw [IntKind.wrap_i64]; omega
    go_region_law (refine step_append_at rfl (.tmp 69) (.tmp 79) 65 rfl 0 71 i0 (.agg #[.string .empty, .int .i64 0, .int .i64 0]) 3 32 Try.underlying65 hi hz0 hz1 hz2 rfl (by decide) (.slice va' l2.length vc') l2.length (row l2) (by simp [Act.eval, Act.put]) (by exact (HW5.out.2.alloc _).drew) ⟨wc.heap.size, 0, none⟩ 1 1 [.string k, .int .i64 (max 0 (n - 1)), .int .i64 cl] (by simp [Act.eval, Act.put]) rfl (by exact new3 _ _ _ _ _) (by exact one3 _ _ _) (by unfold maxLen; omega) (by omega) (Nat.zero_le _) ?_; intro v' w6 hown hgrow hat; obtain ⟨va7, vc7, hv⟩ := ownsRow_shape hown; subst hv; have H4 := new_facts HW5.out (by rfl) (by rfl) (by rfl) (by rfl) hown hgrow hat; obtain ⟨g0, g1, g2, g3, g4, gr, glt⟩ := cells5 H4.1.base; clear hown hgrow hat; have H7 := Lib.hid H4; clear H4 g0 g1 g2 g3)
    all_goals
      clear hwr
      go_wp2
      go_ret
      obtain ⟨H, hne⟩ := H7.out
      obtain ⟨k1, k2⟩ := H.done hne
      refine ⟨by simp, .slice va7 (l2.length + 1) vc7, ?_, foot_hop HF5.out k2 HL5.out, ?_⟩
      · rw [HR.out, Int.max_comm (n - 1) 0]
        exact k1
      · exact hop_lies HF5.out HL5.out H.lies
end Go.Proofs.Ytmdallmbmjcdfaa.Rf
