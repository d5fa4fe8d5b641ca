/- The contract of the finder's piece. -/
import Derived.Test.YtinmfkbppgjcpaaCnd
set_option linter.unusedVariables false
namespace Go.Proofs.Ytinmfkbppgjcpaa.Lz
open Go.RowKit LzP Go.Shelf

attribute [local go_sem] Oper.semAt_some

theorem keeps_drewN (W : World) (q : Nat) : KeepsOthers W (W.drewN q) := ⟨Nat.le_refl _, fun _ _ h _ => h⟩
theorem keeps_set3 (W : World) (b : Nat) (v0 v1 v2 : Value) : KeepsOthers W (((W.setCell ⟨b, 0, none⟩ v0).setCell ⟨b, 1, none⟩ v1).setCell ⟨b, 2, none⟩ v2) :=
  ((KeepsOthers.setCell _ _ _).trans (KeepsOthers.setCell _ _ _)).trans (KeepsOthers.setCell _ _ _)
theorem kept_b {n₀ ab fbx : Nat} {w : World} (hn : n₀ ≤ w.heap.size) (ha : ab < w.heap.size) (hf : fbx < w.heap.size) (W : World) (l : Nat) (o o' : Obj) (hl : w.heap.size ≤ l) (h : W.heap[l]? = some o) (h1 : o.isCells = false) (h2 : o.isWalk = false) : Kept n₀ ab fbx W (W.putObj l o') :=
  ⟨belowK_b (w := w) hn W l o o' hl h h1 h2, World.putObj_heap_other (by omega), World.putObj_heap_other (by omega)⟩
theorem foot_set3 {w W : World} {S : Nat → Prop} (h : Foot w W S) {b : Nat} (hb : w.heap.size ≤ b ∨ S b) (v0 v1 v2 : Value) : Foot w (((W.setCell ⟨b, 0, none⟩ v0).setCell ⟨b, 1, none⟩ v1).setCell ⟨b, 2, none⟩ v2) S :=
  ((h.setCell hb v0).setCell hb v1).setCell hb v2

set_option maxRecDepth 100000 in
set_option maxHeartbeats 4000000 in
theorem piece_any (fb mb at' nx win dep : Nat) (a : Option Addr) (n cap : Nat) (g : Nat → Int) (es : Array MapEntry) (clock : Nat) (F : Int × Int × Int → Value) (w : World) (hn : n ≤ 1048576) (hat : at' < n) (hcap : n ≤ cap) (hcap2 : cap ≤ maxLen) (hwin : win ≤ 32768) (hdep : dep ≤ 4096)
    (hg : ∀ i, i < n → 0 ≤ g i ∧ g i ≤ 255) (hf : FinW w fb mb (.slice a n cap) nx win dep g es clock F) (hnx : at' + 3 ≤ n → nx = at') (ht : Txt w a n g) :
    Calls Try.prog 28 #[.pointer (some ⟨fb, 0, none⟩), .int .i64 at'] w fun e w' => e = .returned (pv (pc g n win dep at') (byt g at' (pc g n win dep at'))) ∧ Below w.heap.size w w' := by
  obtain ⟨b, off, rfl, hbl, hcc⟩ := ht.pos (by omega)
  have hca := hcc at' hat
  obtain ⟨r0, r1, r2, r3, r4, rf, rlt⟩ := fcells hf.fin
  have HF := Lib.hid hf
  have HT := Lib.hid ht
  have HCC := Lib.hid hcc
  clear hf ht hcc r1 r2 r3 r4
  refine (callsIn_wide (n := 5)).1 ?_
  refine callsIn_of_wp_marks Try.func28 rfl trivial ?_ rfl
  simp only [Try.ntmps28, List.size_toArray, List.length_cons, List.length_nil, Nat.reduceAdd, Nat.reduceSub, Array.replicate_succ, Array.replicate_zero, List.push_toArray, List.append_toArray, List.nil_append, List.cons_append]
  gi_wp2_with fail
  obtain ⟨W3, hW3⟩ : ∃ W3, W3 = ((w.alloc (.cells #[.pointer (some ⟨fb, 0, none⟩)] 53)).alloc (.cells #[.int .i64 at'] 3)).alloc (.cells #[.int .i64 0, .int .i64 0, .int .u8 0] 37) := ⟨_, rfl⟩
  rw [← hW3]
  have hs3 : W3.heap.size = w.heap.size + 3 := by rw [hW3]; simp
  have hB3 : Below w.heap.size w W3 := by rw [hW3]; exact (((Below.refl _ w).alloc (Nat.le_refl _) _).alloc (by simp) _).alloc (by simp; omega) _
  have hb0 : W3.heap[w.heap.size]? = some (.cells #[.pointer (some ⟨fb, 0, none⟩)] 53 (0, 0)) := by
    rw [hW3, Below.heap_alloc _ _ _ (by simp; omega), Below.heap_alloc _ _ _ (by simp)]; exact heap_alloc_new _ _
  have hb1 : W3.heap[w.heap.size + 1]? = some (.cells #[.int .i64 at'] 3 (0, 0)) := by
    rw [hW3, Below.heap_alloc _ _ _ (by simp)]; exact heap_alloc2 _ _ _
  have hb2 : W3.heap[w.heap.size + 2]? = some (.cells #[.int .i64 0, .int .i64 0, .int .u8 0] 37 (0, 0)) := by
    rw [hW3]; have := heap_alloc2 (w.alloc (.cells #[.pointer (some ⟨fb, 0, none⟩)] 53)) (.cells #[.int .i64 at'] 3) (.cells #[.int .i64 0, .int .i64 0, .int .u8 0] 37); simpa using this
  have q0 : W3.cell? ⟨w.heap.size, 0, none⟩ = some (.pointer (some ⟨fb, 0, none⟩)) := by simp [World.cell?, hb0]
  have q1 : W3.cell? ⟨w.heap.size + 1, 0, none⟩ = some (.int .i64 at') := by simp [World.cell?, hb1]
  have q2 : W3.cell? ⟨fb, 0, none⟩ = some (.slice (some ⟨b, off, none⟩) n cap) := (hB3.cell (p := ⟨fb, 0, none⟩) rlt).trans r0
  have q3 : W3.cell? ⟨b, off + at', none⟩ = some (.int .u8 (g at')) := (hB3.cell (p := ⟨b, off + at', none⟩) hbl).trans hca
  have t0 : ∀ o, (W3.alloc o).cell? ⟨w.heap.size, 0, none⟩ = some (.pointer (some ⟨fb, 0, none⟩)) := fun o => cell_alloc q0 o
  have t1 : ∀ o, (W3.alloc o).cell? ⟨w.heap.size + 1, 0, none⟩ = some (.int .i64 at') := fun o => cell_alloc q1 o
  have t2 : ∀ o, (W3.alloc o).cell? ⟨fb, 0, none⟩ = some (.slice (some ⟨b, off, none⟩) n cap) := fun o => cell_alloc q2 o
  have t3 : ∀ o, (W3.alloc o).cell? ⟨b, off + at', none⟩ = some (.int .u8 (g at')) := fun o => cell_alloc q3 o
  have HB3 := Lib.hid hB3
  have H0 := Lib.hid hb0
  have H1 := Lib.hid hb1
  have H2 := Lib.hid hb2
  clear hW3 hB3 hb0 hb1 hb2 r0 rf hca
  gi_region
  clear q2 q3 t2 t3
  gi_wp2_with (refine ⟨trivial, ?_⟩; gi_at_call 31; refine (cand_any _ _ _).mono ?_; rintro e w' ⟨rfl, rfl⟩)
  simp only [Nat.add_assoc, Nat.reduceAdd]
  obtain ⟨W0, hW0⟩ : ∃ W0, W0 = (((W3.alloc (Obj.cells #[Value.int IntKind.i64 0, Value.int IntKind.i64 0, Value.int IntKind.u8 (g at')] 37)).alloc (Obj.cells #[Value.pointer (some { block := fb, off := 0 })] 53)).alloc (Obj.cells #[Value.int IntKind.i64 at'] 3)).drew := ⟨_, rfl⟩
  rw [← hW0]
  have hs0 : W0.heap.size = w.heap.size + 6 := by rw [hW0]; show (World.alloc _ _).heap.size = _; simp [hs3]
  have hh : ∀ k, k < W3.heap.size → W0.heap[k]? = W3.heap[k]? := fun k hk => by
    rw [hW0]; show (World.alloc _ _).heap[k]? = _
    rw [Below.heap_alloc _ _ _ (by simp; omega), Below.heap_alloc _ _ _ (by simp; omega), Below.heap_alloc _ _ _ hk]
  have hbest : W0.heap[w.heap.size + 3]? = some (.cells #[.int .i64 0, .int .i64 0, .int .u8 (g at')] 37 (0, 0)) := by
    rw [hW0, ← hs3]; show (World.alloc _ _).heap[_]? = _
    rw [Below.heap_alloc _ _ _ (by simp; omega), Below.heap_alloc _ _ _ (by simp)]; exact heap_alloc_new _ _
  have hbf : W0.heap[w.heap.size + 4]? = some (.cells #[.pointer (some ⟨fb, 0, none⟩)] 53 (0, 0)) := by
    rw [hW0, show w.heap.size + 4 = W3.heap.size + 1 by omega]; show (World.alloc _ _).heap[_]? = _
    rw [Below.heap_alloc _ _ _ (by simp)]; exact heap_alloc2 _ _ _
  have hba : W0.heap[w.heap.size + 5]? = some (.cells #[.int .i64 at'] 3 (0, 0)) := by
    rw [hW0, show w.heap.size + 5 = W3.heap.size + 2 by omega]; show (World.alloc _ _).heap[_]? = _
    have := heap_alloc2 (W3.alloc (Obj.cells #[Value.int IntKind.i64 0, Value.int IntKind.i64 0, Value.int IntKind.u8 (g at')] 37)) (Obj.cells #[Value.pointer (some { block := fb, off := 0 })] 53) (Obj.cells #[Value.int IntKind.i64 at'] 3)
    simpa using this
  have h00 : W0.heap[w.heap.size]? = some (.cells #[.pointer (some ⟨fb, 0, none⟩)] 53 (0, 0)) := (hh _ (by omega)).trans H0.out
  have h01 : W0.heap[w.heap.size + 1]? = some (.cells #[.int .i64 at'] 3 (0, 0)) := (hh _ (by omega)).trans H1.out
  have h02 : W0.heap[w.heap.size + 2]? = some (.cells #[.int .i64 0, .int .i64 0, .int .u8 0] 37 (0, 0)) := (hh _ (by omega)).trans H2.out
  have hB0 : Below w.heap.size w W0 := by
    rw [hW0]; exact (((HB3.out.alloc (by omega) _).alloc (by simp; omega) _).alloc (by simp; omega) _).drew
  have hfe : ∀ k b, okK k → (F k).ownBlock = some b → b < w.heap.size := fun k b hk hb => ((HF.out.grp.own k hk).lt b hb).2
  have hrlt := rlt
  clear q0 q1 t0 t1 hW0 hh HB3 H0 H1 H2
  refine wpIn_rangeFunc_ownG rfl (by omega) (gf := 34) (lb := #[.pointer (some ⟨w.heap.size + 5, 0, none⟩), .pointer (some ⟨w.heap.size + 4, 0, none⟩)]) rfl trivial (enters_of Try.func34 (by kernel_rfl) rfl)
    (cand_stops 4 w.heap.size (w.heap.size + 4) (w.heap.size + 5) fb mb at' nx win dep _ n cap g es clock F W0 (by omega) hn hat hcap hcap2 hwin hdep hg hba hbf rlt hfe (HF.out.below hB0) hnx (HT.out.below hB0)) (fun h k => h.trans k) (kept_b (by omega) (by omega) (by omega)) (Below.refl _ _) (fun _ => rfl)
    (fun pre W => W.heap[w.heap.size + 3]? = some (.cells #[.int .i64 ((pre.map (·.val)).foldl (up g n at') (0, 0)).1, .int .i64 ((pre.map (·.val)).foldl (up g n at') (0, 0)).2, .int .u8 (byt g at' ((pre.map (·.val)).foldl (up g n at') (0, 0)))] 37 (0, 0)) ∧ Foot W0 W (fun k => k = w.heap.size + 3))
    (fun _ _ _ => False) ?own (fun _ _ _ _ _ hs _ _ => hs) ⟨hbest, Foot.refl _ _⟩
    (fun x => { tmps := #[Value.pointer (some { block := fb, off := 0 }), Value.int IntKind.i64 ↑at', Value.pointer (some { block := w.heap.size, off := 0 }), Value.pointer (some { block := w.heap.size + 1, off := 0 }), Value.pointer (some { block := w.heap.size + 2, off := 0 }),
          Value.pointer (some { block := w.heap.size + 3, off := 0 }), .int .i64 (x.val : Nat), undef, Value.pointer (some { block := fb, off := 0 }), Value.pointer (some { block := fb, off := 0 }),
          Value.pointer (some { block := fb, off := 0 }), Value.slice (some { block := b, off := off }) n cap, Value.int IntKind.i64 ↑at', Value.pointer (some { block := b, off := off + at' }),
          Value.int IntKind.u8 (g at'), Value.agg #[Value.int IntKind.i64 0, Value.int IntKind.i64 0, Value.int IntKind.u8 (g at')], Value.pointer (some { block := fb, off := 0 }), Value.int IntKind.i64 ↑at',
          Value.func (Fn.func 34) #[] #[Value.pointer (some { block := w.heap.size + 5, off := 0 }), Value.pointer (some { block := w.heap.size + 4, off := 0 })],
          .int .i64 (x.val : Nat), undef, undef, undef, undef, undef, undef, undef, undef, undef, undef, undef, undef, undef, undef], defers := [] }) ?assign ?body ?done ?stop
  case own =>
    rintro s A B row ⟨h1, h2⟩ hg2 hr
    have := h2.size
    exact ⟨(hg2.block _ (by omega) (fun q => by have := (hr _ q.symm).1; omega)).trans h1, h2.grown hg2 (fun k hk hlt => by have := (hr k hk).1; omega)⟩
  case assign =>
    intro l x W K hK
    gi_wp2
    exact hK
  case body =>
    rintro l pre x W ⟨hbest, hfoot⟩ _
    obtain ⟨x, hxa⟩ := x
    have hmap : ((pre ++ [(⟨x, hxa⟩ : Fin at')]).map (·.val)).foldl (up g n at') (0, 0) = up g n at' ((pre.map (·.val)).foldl (up g n at') (0, 0)) x := by simp
    have HM := Lib.hid hmap
    generalize (pre.map (·.val)).foldl (up g n at') (0, 0) = p at hbest HM
    obtain ⟨s0, s1, s2, sf, slt⟩ := cells3 hbest
    have k0 := (World.cell?_of_block (a := ⟨w.heap.size, 0, none⟩) (hfoot.block w.heap.size (by omega) (by omega))).trans (show W0.cell? ⟨w.heap.size, 0, none⟩ = some (.pointer (some ⟨fb, 0, none⟩)) by simp [World.cell?, h00])
    have k1 := (World.cell?_of_block (a := ⟨w.heap.size + 1, 0, none⟩) (hfoot.block (w.heap.size + 1) (by omega) (by omega))).trans (show W0.cell? ⟨w.heap.size + 1, 0, none⟩ = some (.int .i64 at') by simp [World.cell?, h01])
    have hbelW : Below w.heap.size w W := hB0.trans (hfoot.below (by omega) (fun k hk q => by omega))
    have htW : Txt W (some ⟨b, off, none⟩) n g := HT.out.below hbelW
    have HL := Lib.hid (len_fin fb (some ⟨b, off, none⟩) n cap g x at' W (fcells (HF.out.below hbelW).fin).1 htW hn hxa hat)
    have hal := al_le g n x at'
    obtain ⟨dd, hdd⟩ : ∃ dd, dd = at' - x := ⟨_, rfl⟩
    have hsub : (at' : Int) - (x : Int) = (dd : Int) := by omega
    have HDD := Lib.hid hdd
    have HFT := Lib.hid hfoot
    have HBE := Lib.hid hbest
    generalize hA : al g n x at' = A at HL hal
    have HA := Lib.hid hA
    clear hmap hbest hfoot hbelW htW hdd hA hbl hba hbf h00 h01 h02
    by_cases h4 : p.1 < A
    · gi_wp2_with (refine ⟨trivial, ?_⟩; gi_at_call 32; refine (CallsIn.inRound l (callsIn_wide.2 HL.out)).mono ?_; rintro e w' ⟨rfl, q, rfl⟩)
      have e3 := heap_set3 (w := W.drewN q) HBE.out (.int .i64 A) (.int .i64 dd) (.int .u8 0)
      have hup : up g n at' p x = (A, dd) := by unfold up; rw [HA.out, if_pos h4, HDD.out]
      have hby : byt g at' (A, dd) = 0 := by unfold byt; rw [if_neg]; show ¬ A = 0; omega
      refine ⟨((keeps_drewN W q).trans (keeps_set3 _ _ _ _ _)).from _, ⟨below_set3 (belowN (Below.refl _ _)) (by omega) _ _ _, heap_other3 (W.drewN q) (by omega) _ _ _, heap_other3 (W.drewN q) (by omega) _ _ _⟩, ?_, foot_set3 (HFT.out.drewN q) (.inr rfl) _ _ _⟩
      rw [HM.out, hup, hby]
      exact e3
    · gi_wp2_with (refine ⟨trivial, ?_⟩; gi_at_call 32; refine (CallsIn.inRound l (callsIn_wide.2 HL.out)).mono ?_; rintro e w' ⟨rfl, q, rfl⟩)
      have hup : up g n at' p x = p := by unfold up; rw [HA.out, if_neg h4]
      refine ⟨(keeps_drewN W q).from _, Kept.drewN _ _ _ W q, ?_, HFT.out.drewN q⟩
      rw [HM.out, hup]
      exact HBE.out
  case done =>
    rintro D ys W hD hS ⟨hbest, hfoot⟩ hK
    rw [hS] at hbest
    have hpc : (cs g n at' win at' dep).foldl (up g n at') (0, 0) = pc g n win dep at' := rfl
    rw [hpc] at hbest
    obtain ⟨p, hp⟩ : ∃ p, p = pc g n win dep at' := ⟨_, rfl⟩
    rw [← hp] at hbest
    have HP := Lib.hid hp
    have hres := (hfoot.block (w.heap.size + 2) (by omega) (by omega)).trans h02
    obtain ⟨s0, s1, s2, sf, slt⟩ := cells3 hbest
    obtain ⟨r0, r1, r2, rf, rlt⟩ := cells3 hres
    have HFT := Lib.hid hfoot
    have HRE := Lib.hid hres
    clear hS hpc hp hbest hfoot hres hbl hba hbf h00 h01 h02
    gi_wp2
    have hD2 : D ≠ w.heap.size + 2 := by omega
    have H3 := heap_set3 HRE.out (.int .i64 p.1) (.int .i64 p.2) (.int .u8 (byt g at' p))
    have H4 := foot_set3 (HFT.out.mono (S' := fun k => k = w.heap.size + 3 ∨ k = w.heap.size + 2) (fun k _ q => .inl q)) (b := w.heap.size + 2) (.inr (.inr rfl)) (.int .i64 p.1) (.int .i64 p.2) (.int .u8 (byt g at' p))
    have H5 := (heap_other3 W hD2 (.int .i64 p.1) (.int .i64 p.2) (.int .u8 (byt g at' p))).trans hK
    generalize (((W.setCell ⟨w.heap.size + 2, 0, none⟩ (.int .i64 p.1)).setCell ⟨w.heap.size + 2, 1, none⟩ (.int .i64 p.2)).setCell ⟨w.heap.size + 2, 2, none⟩ (.int .u8 (byt g at' p))) = V at H3 H4 H5 ⊢
    refine ⟨by simp, .inl ⟨_, _, rfl, run_takeDeferred H5, ?_⟩⟩
    have H6 : (V.putObj D (.deferred none)).heap[w.heap.size + 2]? = _ := (World.putObj_heap_other (Ne.symm hD2)).trans H3
    obtain ⟨v0, v1, v2, _⟩ := cells3 H6
    refine ⟨pv p (byt g at' p), ?_, by rw [HP.out], ?_⟩
    · simp [results, Try.f28, pv, go_sem, v0, v1, v2]
    · exact (hB0.trans (H4.below (by omega) (fun k hk q => by omega))).trans (belowK_b (w := w) (Nat.le_refl _) V D _ _ (by omega) H5 rfl rfl)
  case stop =>
    rintro D c pre W _ _ h _
    exact h.elim
end Go.Proofs.Ytinmfkbppgjcpaa.Lz
