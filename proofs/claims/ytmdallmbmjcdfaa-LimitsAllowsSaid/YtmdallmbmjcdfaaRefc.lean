/- The contracts of the reference's Limiter: Allow. -/
import Derived.Test.YtmdallmbmjcdfaaRefb
import Derived.Deep.RegionHeldLaw
set_option linter.unusedVariables false
namespace Go.Proofs.Ytmdallmbmjcdfaa.Rf
open Go.RowKit Go.Proofs.Ytmdallmbmjcdfaa.Lm

/-- append onto an owned row, as one step of a region that draws -/
theorem step_append_at {P : Program} {w : World} {ops : Array Oper} {o : Oper} {a : Act} {K : Act → World → Prop} {Q : Exit → Act → World → Prop} {E : Prop} (hgd : o.guard = none) (s x : Operand) (t : TypeId)
    (ho : o.op = .call { callee := .builtin .append, args := #[s, x], argTypes := #[t, t] })
    (base : Nat) (e : TypeId) (i : TypeInfo) (z : Value) (size bytes : Nat) (ht : P.underlying t = some (.slice e)) (hi : P.info? e = some i) (hz : i.zero = some z)
    (hsize : i.size = size) (hby : i.bytes = bytes) (hzs : z.cells.size = size) (hsz : 0 < size)
    (v : Value) (n : Nat) (xs : List Value) (hs : a.eval s = v) (hown : w.ownsRow base e size v n xs)
    (ad : Addr) (m c : Nat) (news : List Value) (hx : a.eval x = .slice (some ad) m c) (hl : news.length = m * size) (hnews : ∀ j u, news[j]? = some u → w.cell? (ad.add j) = some u) (h1 : ∀ u ∈ news, u.oneCell' = true)
    (h63 : n + m ≤ maxLen) (hbytes : (n + m) * bytes ≤ 140737488355328) (hbase : base ≤ w.heap.size)
    (hK : ∀ v' w', w'.ownsRow base e size v' (n + m) (xs ++ news) → w.grownBy w' v.ownBlock → (v'.ownBlock = v.ownBlock ∨ v'.ownBlock = some w.heap.size) → K (a.put o.dst v') w') :
    if Region.wanted o (yielded ops a.tmps) = true then Oper.wp P o a w K Q else E := by
  have hw : Region.wanted o (yielded ops a.tmps) = true := by simp [Region.wanted, hgd]
  rw [if_pos hw]
  obtain ⟨v', w', hr, h2, h3, h4, h5⟩ := run_append_own_at (P := P) w base t o.type e i z size bytes ht hi hz hsize hby hzs hsz v n xs hown ad m c news hl hnews h1 h63 hbytes hbase
  unfold Oper.wp
  simp [execOp, ho, resolve, invoke, builtin, hs, hx, hr, Result.andThen]
  exact hK v' w' h2 h3 h5

theorem info71 : (Try.prog.info? 71).map (fun i => (i.zero, i.size, i.bytes)) = some (some (.agg #[.string .empty, .int .i64 0, .int .i64 0]), 3, 32) := by kernel_rfl

def rfeet (c : Nat) (sv : Value) (k : Nat) : Prop := k = c ∨ sv.ownBlock = some k

theorem RefW.keep {w w' : World} {c : Nat} {sv : Value} {s : LS} (h : RefW w c sv s) (hk : ∀ k, rfeet c sv k → k < w.heap.size → w'.heap[k]? = w.heap[k]?) : RefW w' c sv s :=
  ⟨(hk c (.inl rfl) (Array.getElem?_eq_some_iff.1 h.1).1).trans h.1, ownsRow_keep h.2 fun g hg hlt => hk g (.inr hg) hlt⟩

theorem RefW.apart {w : World} {c : Nat} {sv : Value} {s : LS} (h : RefW w c sv s) : sv.ownBlock ≠ some c := by
  intro q
  rcases h.2.2 with ⟨rfl, _⟩ | ⟨g, cap, cur, rfl, _, hg, _⟩
  · cases q
  · cases q; have := h.1; rw [hg] at this; cases this

theorem RefW.lt {w : World} {c : Nat} {sv : Value} {s : LS} (h : RefW w c sv s) : ∀ k, rfeet c sv k → k < w.heap.size := by
  rintro k (rfl | q)
  · exact (Array.getElem?_eq_some_iff.1 h.1).1
  · rcases h.2.2 with ⟨rfl, _⟩ | ⟨g, cap, cur, rfl, _, hg, _⟩
    · cases q
    · cases q; exact (Array.getElem?_eq_some_iff.1 hg).1

theorem RefW.tick {c : Nat} {sv : Value} {s : LS} {w : World} (h : RefW w c sv s) (t : Int) : RefW (w.setCell ⟨c, 3, none⟩ (.int .i64 t)) c sv { s with now := t } := by
  refine ⟨?_, ownsRow_keep h.2 (fun g hg _ => Below.heap_setCell _ _ _ _ (fun q => h.apart (by rw [hg, q])))⟩
  rw [heap_setCell_same (off := 3) h.1]; rfl

theorem new3 (w : World) (x y z : Value) (t : TypeId) : ∀ j u, [x, y, z][j]? = some u → (w.alloc (.cells #[x, y, z] t)).drew.cell? ((⟨w.heap.size, 0, none⟩ : Addr).add j) = some u := by
  intro j u h
  have hb := heap_alloc_new w (.cells #[x, y, z] t)
  have hadd : ((⟨w.heap.size, 0, none⟩ : Addr).add j) = ⟨w.heap.size, j, none⟩ := by
    unfold Addr.add; split
    · subst j; rfl
    · simp
  rw [hadd]
  show (w.alloc (.cells #[x, y, z] t)).cell? _ = _
  simp only [World.cell?, hb]
  simpa using h

theorem one3 (k : ByteArray) (x y : Int) : ∀ u ∈ [Value.string k, .int .i64 x, .int .i64 y], u.oneCell' = true := by
  intro u hu
  simp at hu
  rcases hu with rfl | rfl | rfl <;> rfl

/-- what stands once a bucket has been appended -/
structure Grew (c : Nat) (sv sv' : Value) (s : LS) (l' : List Bk) (w w' : World) : Prop where
  base : w'.heap[c]? = some (.cells #[.int .i64 s.rate, .int .i64 (s.full - s.rate), .int .i64 s.keys, .int .i64 s.now, sv] 67 (0, 0))
  row : w'.ownsRow 0 71 3 sv' l'.length (row l')
  foot : Foot w w' (rfeet c sv)
  lies : sv'.ownBlock = sv.ownBlock ∨ ∃ g, sv'.ownBlock = some g ∧ w.heap.size ≤ g

theorem row_snoc (l : List Bk) (k : ByteArray) (x y : Int) : row (l ++ [(k, x, y)]) = row l ++ [.string k, .int .i64 x, .int .i64 y] := by simp [row, c3]

theorem new_facts {c : Nat} {sv v' : Value} {s : LS} {k : ByteArray} {x y : Int} {w2 W w4 : World} {o : Obj} {N : Nat} (h2 : RefW w2 c sv s) (hW1 : W.heap = w2.heap.push o) (hW2 : W.os = w2.os) (hW3 : W.tape = w2.tape) (hW4 : W.output = w2.output)
    (hown : w4.ownsRow 0 71 3 v' N (row s.l ++ [.string k, .int .i64 x, .int .i64 y])) (hgrow : W.grownBy w4 sv.ownBlock) (hat : v'.ownBlock = sv.ownBlock ∨ v'.ownBlock = some W.heap.size) (hN : N = s.l.length + 1 := by rfl) :
    Grew c sv v' s (s.l ++ [(k, x, y)]) w2 w4 ∧ v'.ownBlock ≠ some c := by
  subst hN
  have hsz : W.heap.size = w2.heap.size + 1 := by rw [hW1]; simp
  have hcl := h2.lt c (.inl rfl)
  have hfw : Foot w2 W (rfeet c sv) := ⟨hW2, hW3, hW4, by omega, fun k hk _ => by rw [hW1, Array.getElem?_push, if_neg (by omega)]⟩
  have hf4 := hfw.grown hgrow (fun k hk _ => .inr hk)
  have hcb : W.heap[c]? = w2.heap[c]? := by rw [hW1, Array.getElem?_push, if_neg (by omega)]
  refine ⟨⟨?_, ?_, hf4, ?_⟩, ?_⟩
  · rw [hgrow.block c (by omega) (fun q => h2.apart q.symm), hcb]; exact h2.1
  · rw [row_snoc, List.length_append]; exact hown
  · rcases hat with hat | hat
    · exact .inl hat
    · exact .inr ⟨_, hat, by omega⟩
  · rcases hat with hat | hat
    · rw [hat]; exact h2.apart
    · rw [hat]; intro q; cases q; omega

theorem Grew.done {c : Nat} {sv sv' : Value} {s : LS} {l' : List Bk} {w w' : World} (h : Grew c sv sv' s l' w w') (hne : sv'.ownBlock ≠ some c) : RefW (w'.setCell ⟨c, 4, none⟩ sv') c sv' { s with l := l' } ∧ Foot w (w'.setCell ⟨c, 4, none⟩ sv') (rfeet c sv) := by
  refine ⟨⟨?_, ownsRow_keep h.row (fun g hg _ => Below.heap_setCell _ _ _ _ (fun q => hne (by rw [hg, q])))⟩, h.foot.setCell (.inr (.inl rfl)) _⟩
  rw [heap_setCell_same (off := 4) h.base]; rfl

set_option maxHeartbeats 1600000 in
set_option maxRecDepth 100000 in
theorem allow_room (c : Nat) (sv : Value) (s : LS) (k : ByteArray) (now : Int) (w : World) (hw : RefW w c sv s) (hs : Ok s) (hf : find s.l k = none) (hne : (s.l.length : Int) ≠ s.keys) :
    Calls Try.prog 28 #[.pointer (some ⟨c, 0, none⟩), .string k, .int .i64 now] w fun e w' => e = .returned (.bool (decide (0 < left s k now))) ∧ ∃ sv', RefW w' c sv' (allow s k now) ∧ Foot w w' (rfeet c sv) ∧ (sv'.ownBlock = sv.ownBlock ∨ ∃ g, sv'.ownBlock = some g ∧ w.heap.size ≤ g) := by
  obtain ⟨va, vc, rfl⟩ := ownsRow_shape hw.2
  obtain ⟨d0, d1, d2, d3, d4, dr, dlt⟩ := cells5 hw.1
  obtain ⟨i0, hi, hz0, hz1, hz2⟩ := info_parts info71
  have hlb := left_bd hs k now
  have hck := ref_clock hs now
  have hcl := clock_bd hs now
  have hroom : roomed s k = s.l := by unfold roomed; rw [if_neg (fun q => hne q.2)]
  have hfin : allow s k now = { s with l := drop s.l k ++ [(k, max (left s k now - 1) 0, clock s now)], now := clock s now } := by simp [allow, hroom]
  rw [drop_none hf] at hfin
  have H0 := Lib.hid (left_any c _ s k now w hw hs)
  generalize left s k now = n at *
  generalize clock s now = cl at *
  have HR := Lib.hid hfin
  have HC := Lib.hid hck
  have HO := Lib.hid hs
  have HW := Lib.hid hw
  have HZ := Lib.hid hf
  have HCL := Lib.hid hcl
  obtain ⟨hl1, hl2⟩ := hlb
  have hf2 := hs.full2
  have hlen : s.l.length ≤ 1000 := by have := hs.count; have := hs.keys2; omega
  have hbq : ((s.l.length : Int) == s.keys) = false := by simp; exact hne
  clear hw hs hfin hck hf hcl hroom hne
  go_enter Try.func28, Try.ntmps28
  go_wp2_with fail
  refine H0.out.mono ?_
  rintro e w1 ⟨rfl, q, rfl⟩
  go_wp2_with (first | (go_at_call 31; refine (time_any c s.now now _ (by exact d3)).mono ?_; rintro e w' ⟨rfl, rfl⟩; rw [HC.out]))
  have hw2 : RefW ((w.drewN q).setCell ⟨c, 3, none⟩ (.int .i64 cl)) c (.slice va s.l.length vc) { s with now := cl } := RefW.tick (w := w.drewN q) HW.out cl
  have hf2' : Foot w ((w.drewN q).setCell ⟨c, 3, none⟩ (.int .i64 cl)) (rfeet c (.slice va s.l.length vc)) := Foot.setCell (Foot.drewN (Foot.refl w _) q) (.inr (.inl rfl)) _
  generalize (w.drewN q).setCell ⟨c, 3, none⟩ (.int .i64 cl) = w2 at hw2 hf2' ⊢
  have hok2 := HO.out.tick (t := cl) HCL.out.2.1 HCL.out.2.2
  have H30 : Hid (Calls Try.prog 30 #[.pointer (some ⟨c, 0, none⟩), .string k] w2 fun e w' => e = .returned (.int .i64 (-1)) ∧ w2 = w') := find_none c _ { s with now := cl } k w2 hw2 hok2 HZ.out
  obtain ⟨e0, e1, e2, e3, e4, er, elt⟩ := cells5 hw2.1
  dsimp only at e0 e1 e2 e3 e4
  have HW2 := Lib.hid hw2
  have HF2 := Lib.hid hf2'
  have HO2 := Lib.hid hok2
  clear hw2 hf2' hok2 d0 d1 d2 d3 d4 dr dlt H0
  refine H30.out.mono ?_
  rintro e w' ⟨rfl, rfl⟩
  go_wp2
  go_quiet (fail)
  clear hbq
  obtain ⟨w3, hw3⟩ : ∃ w3, w3 = w2.drewN nq := ⟨_, rfl⟩
  have f3 : w3.cell? ⟨c, 3, none⟩ = some (.int .i64 cl) := by rw [hw3]; exact e3
  have f4 : w3.cell? ⟨c, 4, none⟩ = some (.slice va s.l.length vc) := by rw [hw3]; exact e4
  have fr : ∀ o, w3.frozen? ⟨c, o, none⟩ = false := by rw [hw3]; exact er
  have flt : c < w3.heap.size := by rw [hw3]; exact elt
  have hrow : w3.ownsRow 0 71 3 (.slice va s.l.length vc) s.l.length (row s.l) := by rw [hw3]; exact HW2.out.2
  have HR3 := Lib.hid hrow
  have H3 := Lib.hid hw3
  rw [← hw3]
  clear hw3 hrow e0 e1 e2 e3 e4 er elt
  go_wp2
  have hwr : IntKind.i64.wrap (n - 1) = n - 1 := by rw [IntKind.wrap_i64]; omega
  go_region_law (refine step_append_at rfl (.tmp 69) (.tmp 79) 65 rfl 0 71 i0 (.agg #[.string .empty, .int .i64 0, .int .i64 0]) 3 32 Try.underlying65 hi hz0 hz1 hz2 rfl (by decide) (.slice va s.l.length vc) s.l.length (row s.l) (by simp [Act.eval, Act.put]) (by exact (HR3.out.alloc _).drew) ⟨w3.heap.size, 0, none⟩ 1 1 [.string k, .int .i64 (max 0 (n - 1)), .int .i64 cl] (by simp [Act.eval, Act.put]) rfl (by exact new3 _ _ _ _ _) (by exact one3 _ _ _) (by unfold maxLen; omega) (by omega) (Nat.zero_le _) ?_; intro v' w4 hown hgrow hat; obtain ⟨va', vc', hv⟩ := ownsRow_shape hown; subst hv; have H4 := new_facts HW2.out (by rw [H3.out]; rfl) (by rw [H3.out]; rfl) (by rw [H3.out]; rfl) (by rw [H3.out]; rfl) hown hgrow hat; obtain ⟨g0, g1, g2, g3, g4, gr, glt⟩ := cells5 H4.1.base; clear hown hgrow hat; have H5 := Lib.hid H4; clear H4 g0 g1 g2 g3)
  all_goals
    clear hwr
    go_wp2
    go_ret
    obtain ⟨H, hne⟩ := H5.out
    obtain ⟨k1, k2⟩ := H.done hne
    refine ⟨by simp, _, ?_, HF2.out.trans k2 (fun _ _ h => h), H.lies.imp id (fun ⟨g, h1, h2⟩ => ⟨g, h1, Nat.le_trans HF2.out.size h2⟩)⟩
    rw [HR.out, Int.max_comm (n - 1) 0]
    exact k1
end Go.Proofs.Ytmdallmbmjcdfaa.Rf
