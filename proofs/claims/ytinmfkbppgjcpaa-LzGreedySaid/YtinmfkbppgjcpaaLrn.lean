/- The contract of the finder's learn. -/
import Derived.Test.YtinmfkbppgjcpaaGrp
import Derived.Deep.RegionLaw
import Derived.Deep.RegionWith
import Derived.BigRegion
set_option linter.unusedVariables false
namespace Go.Proofs.Ytinmfkbppgjcpaa.Lz
open Go.RowKit LzP

/-- append onto an owned row, as one step of a region that draws -/
theorem step_append_at {P : Program} {w : World} {ops : Array Oper} {o : Oper} {a : Act} {K : Act → World → Prop} {Q : Exit → Act → World → Prop} {E : Prop} (hgd : o.guard = none) (s x : Operand) (t : TypeId)
    (ho : o.op = .call { callee := .builtin .append, args := #[s, x], argTypes := #[t, t] })
    (base : Nat) (e : TypeId) (i : TypeInfo) (z : Value) (size bytes : Nat) (ht : P.underlying t = some (.slice e)) (hi : P.info? e = some i) (hz : i.zero = some z)
    (hsize : i.size = size) (hby : i.bytes = bytes) (hzs : z.cells.size = size) (hsz : 0 < size)
    (v : Value) (n : Nat) (xs : List Value) (hs : a.eval s = v) (hown : w.ownsRow base e size v n xs)
    (ad : Addr) (m c : Nat) (news : List Value) (hx : a.eval x = .slice (some ad) m c) (hl : news.length = m * size) (hnews : ∀ j u, news[j]? = some u → w.cell? (ad.add j) = some u) (h1 : ∀ u ∈ news, u.oneCell' = true)
    (h63 : n + m ≤ maxLen) (hbytes : (n + m) * bytes ≤ 140737488355328) (hbase : base ≤ w.heap.size)
    (hK : ∀ v' w', w'.ownsRow base e size v' (n + m) (xs ++ news) → w.grownBy w' v.ownBlock → (v'.ownBlock = v.ownBlock ∨ v'.ownBlock = some w.heap.size) → K (a.put o.dst v') w') :
    if Region.wanted o (yielded ops a.tmps) = true then Oper.wp P o a w K Q else E := by
  have hw : Region.wanted o (yielded ops a.tmps) = true := by simp [Region.wanted, hgd]
  rw [if_pos hw]
  obtain ⟨v', w', hr, h2, h3, h4, h5⟩ := run_append_own_at (P := P) w base t o.type e i z size bytes ht hi hz hsize hby hzs hsz v n xs hown ad m c news hl hnews h1 h63 hbytes hbase
  unfold Oper.wp
  simp [execOp, ho, resolve, invoke, builtin, hs, hx, hr, Result.andThen]
  exact hK v' w' h2 h3 h5

theorem info3 : (Try.prog.info? 3).map (fun i => (i.zero, i.size, i.bytes)) = some (some (.int .i64 0), 1, 8) := by kernel_rfl

theorem setBlock_alloc {X : World} {b : Nat} (h : b < X.heap.size) (m o : Obj) : Go.ChangeMaps.setBlock (X.alloc o).drew b m = ((Go.ChangeMaps.setBlock X b m).alloc o).drew := by
  have e : (X.heap.push o).setIfInBounds b m = (X.heap.setIfInBounds b m).push o := by
    apply Array.ext
    · simp
    · intro i h1 h2
      simp at h1 h2
      rw [Array.getElem_setIfInBounds (by simpa using h1), Array.getElem_push, Array.getElem_push]
      by_cases hi : i < X.heap.size
      · simp [hi, Array.getElem_setIfInBounds]
      · have : b ≠ i := by omega
        simp [hi, this]
  show ({ (X.alloc o).drew with heap := (X.heap.push o).setIfInBounds b m } : World) = _
  rw [e]; rfl

/-- a finder in memory -/
structure FinW (w : World) (fb mb : Nat) (sv : Value) (nx : Nat) (win dep : Int) (g : Nat → Int) (es : Array MapEntry) (clock : Nat) (F : Int × Int × Int → Value) : Prop where
  fin : w.heap[fb]? = some (.cells #[sv, .map (some mb), .int .i64 nx, .int .i64 win, .int .i64 dep] 56 (0, 0))
  grp : GrpW w mb es clock F (places g nx)

/-- a finder's blocks -/
def ffeet (fb mb : Nat) (F : Int × Int × Int → Value) (b : Nat) : Prop := b = fb ∨ b = mb ∨ ∃ k, okK k ∧ (F k).ownBlock = some b

theorem fcells {w : World} {b : Nat} {c0 c1 c2 c3 c4 : Value} {t : TypeId} (h : w.heap[b]? = some (.cells #[c0, c1, c2, c3, c4] t (0, 0))) :
    w.cell? ⟨b, 0, none⟩ = some c0 ∧ w.cell? ⟨b, 1, none⟩ = some c1 ∧ w.cell? ⟨b, 2, none⟩ = some c2 ∧ w.cell? ⟨b, 3, none⟩ = some c3 ∧ w.cell? ⟨b, 4, none⟩ = some c4 ∧ (∀ o, w.frozen? ⟨b, o, none⟩ = false) ∧ b < w.heap.size :=
  ⟨by simp [World.cell?, h], by simp [World.cell?, h], by simp [World.cell?, h], by simp [World.cell?, h], by simp [World.cell?, h], fun o => by simp [World.frozen?, h], (Array.getElem?_eq_some_iff.1 h).1⟩

/-- the text lies apart -/
def Off (a : Option Addr) (S : Nat → Prop) : Prop := ∀ b off, a = some ⟨b, off, none⟩ → ¬ S b

theorem FinW.apart {w : World} {fb mb : Nat} {sv : Value} {nx : Nat} {win dep : Int} {g : Nat → Int} {es : Array MapEntry} {clock : Nat} {F : Int × Int × Int → Value} (h : FinW w fb mb sv nx win dep g es clock F) :
    fb ≠ mb ∧ ∀ k, okK k → (F k).ownBlock ≠ some fb := by
  refine ⟨fun q => ?_, fun k hk q => ?_⟩
  · subst q; have := h.fin; rw [h.grp.block] at this; cases this
  · rcases (h.grp.own k hk).2 with ⟨e, _⟩ | ⟨g', c, cur, e, _, hg, _⟩
    · rw [e] at q; cases q
    · rw [e] at q; cases q; have := h.fin; rw [hg] at this; cases this

theorem learn_round {wr X w4 Z V : World} {fb mb : Nat} {sv : Value} {nx : Nat} {win dep : Int} {g : Nat → Int} {es es1 es' : Array MapEntry} {clock clock1 clock' : Nat} {F : Int × Int × Int → Value} {KB o0 : Obj} {v' : Value}
    (hf : FinW wr fb mb sv nx win dep g es clock F) (hk : okK (key g nx)) (hX1 : X.heap = wr.heap.push KB) (hX2 : X.os = wr.os) (hX3 : X.tape = wr.tape) (hX4 : X.output = wr.output)
    (hgrow : ((Go.ChangeMaps.setBlock X mb (.map es1 clock1)).alloc o0).drew.grownBy w4 (F (key g nx)).ownBlock) (hown : w4.ownsRow 0 3 1 v' ((places g nx (key g nx)).length + 1) (nums (places g nx (key g nx)) ++ [.int .i64 nx]))
    (hat : v'.ownBlock = (F (key g nx)).ownBlock ∨ v'.ownBlock = some (((Go.ChangeMaps.setBlock X mb (.map es1 clock1)).alloc o0).drew).heap.size)
    (hstep : ∀ (w3 : World) (xs : List Nat), w3.heap[mb]? = some (.map es' clock') → (∀ k' g', okK k' → (F k').ownBlock = some g' → g' < wr.heap.size → (F (key g nx)).ownBlock ≠ some g' → g' ≠ mb → w3.heap[g']? = wr.heap[g']?) → w3.ownsRow 0 3 1 v' xs.length (nums xs) →
          (v'.ownBlock = (F (key g nx)).ownBlock ∨ ∃ g', v'.ownBlock = some g' ∧ wr.heap.size ≤ g') → GrpW w3 mb es' clock' (upd F (key g nx) v') (upd (places g nx) (key g nx) xs))
    (hZ : Z = Go.ChangeMaps.setBlock w4 mb (.map es' clock')) (hV : V = Z.setCell ⟨fb, 2, none⟩ (.int .i64 ((nx + 1 : Nat) : Int))) :
    ∃ es clock F', FinW V fb mb sv (nx + 1) win dep g es clock F' ∧ Foot wr V (ffeet fb mb F) ∧ ∀ b, ffeet fb mb F' b → ffeet fb mb F b ∨ wr.heap.size ≤ b := by
  obtain ⟨hfm, hfk⟩ := hf.apart
  have hml := hf.grp.lt
  have hfl := (Array.getElem?_eq_some_iff.1 hf.fin).1
  have hsX : X.heap.size = wr.heap.size + 1 := by rw [hX1]; simp
  have hsY : ((Go.ChangeMaps.setBlock X mb (.map es1 clock1)).alloc o0).drew.heap.size = wr.heap.size + 2 := by
    show ((X.heap.setIfInBounds mb _).push o0).size = _
    simp [hsX]
  have h4 := hgrow.size
  rw [hsY] at h4 hat
  have hY : ∀ j, j < wr.heap.size → j ≠ mb → ((Go.ChangeMaps.setBlock X mb (.map es1 clock1)).alloc o0).drew.heap[j]? = wr.heap[j]? := by
    intro j hj hne
    show ((X.heap.setIfInBounds mb _).push o0)[j]? = _
    rw [Array.getElem?_push, if_neg (by simp; omega), Array.getElem?_setIfInBounds, if_neg (Ne.symm hne), hX1, Array.getElem?_push, if_neg (by omega)]
  have hown4 := hown
  have hvm : v'.ownBlock ≠ some mb := by
    rcases hat with q | q
    · rw [q]; exact own_ne_map (hf.grp.own _ hk) hf.grp.block
    · rw [q]; intro e; cases e; omega
  have hvf : v'.ownBlock ≠ some fb := by
    rcases hat with q | q
    · rw [q]; exact hfk _ hk
    · rw [q]; intro e; cases e; omega
  have hZs : Z.heap.size = w4.heap.size := by rw [hZ]; simp [Go.ChangeMaps.setBlock]
  have hVb : ∀ j, j ≠ fb → V.heap[j]? = Z.heap[j]? := fun j hj => by rw [hV]; exact Below.heap_setCell _ _ _ _ hj
  have hZb : ∀ j, j ≠ mb → Z.heap[j]? = w4.heap[j]? := fun j hj => by rw [hZ]; show (w4.heap.setIfInBounds mb _)[j]? = _; rw [Array.getElem?_setIfInBounds, if_neg (Ne.symm hj)]
  have hVm : V.heap[mb]? = some (.map es' clock') := by
    rw [hVb mb (Ne.symm hfm), hZ]
    show (w4.heap.setIfInBounds mb _)[mb]? = _
    rw [Array.getElem?_setIfInBounds, if_pos rfl, if_pos (by omega)]
  have hZf : Z.heap[fb]? = wr.heap[fb]? := by
    rw [hZb fb hfm, hgrow.block fb (by omega) (fun q => hfk _ hk q.symm), hY fb hfl hfm]
  have hVf : V.heap[fb]? = some (.cells #[sv, .map (some mb), .int .i64 ((nx + 1 : Nat) : Int), .int .i64 win, .int .i64 dep] 56 (0, 0)) := by
    rw [hV, heap_setCell_same (hZf.trans hf.fin)]
    simp
  have hsame : ∀ j, j < wr.heap.size → ¬ ffeet fb mb F j → V.heap[j]? = wr.heap[j]? := by
    intro j hj hn
    have h1 : j ≠ fb := fun q => hn (.inl q)
    have h2 : j ≠ mb := fun q => hn (.inr (.inl q))
    have h3 : (F (key g nx)).ownBlock ≠ some j := fun q => hn (.inr (.inr ⟨_, hk, q⟩))
    rw [hVb j h1, hZb j h2, hgrow.block j (by omega) (fun q => h3 q.symm), hY j hj h2]
  refine ⟨es', clock', upd F (key g nx) v', ⟨hVf, ?_⟩, ⟨?_, ?_, ?_, ?_, hsame⟩, ?_⟩
  · have hu : upd (places g nx) (key g nx) (places g nx (key g nx) ++ [nx]) = places g (nx + 1) := by
      funext k
      rw [places_succ]
      unfold upd
      by_cases e : k = key g nx
      · subst e; rw [if_pos rfl]
      · rw [if_neg e, if_neg (fun q => e q.symm)]
    rw [← hu]
    refine hstep V _ hVm ?_ ?_ ?_
    · intro k' j hk' hkj hj h3 h2
      have h1 : j ≠ fb := fun q => hfk k' hk' (by rw [hkj, q])
      rw [hVb j h1, hZb j h2, hgrow.block j (by omega) (fun q => h3 q.symm), hY j hj h2]
    · have : V.ownsRow 0 3 1 v' ((places g nx (key g nx)).length + 1) (nums (places g nx (key g nx)) ++ [.int .i64 nx]) :=
        own_keep hown4 fun j hj _ => by rw [hVb j (fun q => hvf (by rw [hj, q])), hZb j (fun q => hvm (by rw [hj, q]))]
      rw [List.length_append]
      have e : nums (places g nx (key g nx) ++ [nx]) = nums (places g nx (key g nx)) ++ [.int .i64 nx] := by simp [nums]
      rw [e]; exact this
    · rcases hat with q | q
      · exact .inl q
      · exact .inr ⟨_, q, by omega⟩
  · rw [hV, hZ]; exact hgrow.os.trans hX2
  · rw [hV, hZ]; exact hgrow.tape.trans hX3
  · rw [hV, hZ]; exact hgrow.output.trans hX4
  · have : V.heap.size = Z.heap.size := by rw [hV]; simp [World.setCell]
    omega
  · rintro b (hb | hb | ⟨k, hok, hb⟩)
    · exact .inl (.inl hb)
    · exact .inl (.inr (.inl hb))
    · unfold upd at hb
      split at hb
      · rcases hat with q | q
        · exact .inl (.inr (.inr ⟨_, hk, q.symm.trans hb⟩))
        · rw [q] at hb; cases hb; exact .inr (by omega)
      · exact .inl (.inr (.inr ⟨k, hok, hb⟩))

theorem FinW.drewN {w : World} {fb mb : Nat} {sv : Value} {nx : Nat} {win dep : Int} {g : Nat → Int} {es : Array MapEntry} {clock : Nat} {F : Int × Int × Int → Value} (h : FinW w fb mb sv nx win dep g es clock F) (q : Nat) :
    FinW (w.drewN q) fb mb sv nx win dep g es clock F := ⟨h.fin, h.grp.keep rfl (fun _ _ _ _ _ => rfl)⟩

theorem learn_law {wr X Y w4 : World} {fb mb : Nat} {sv : Value} {nx : Nat} {win dep : Int} {g : Nat → Int} {es es1 : Array MapEntry} {clock clock1 st : Nat} {F : Int × Int × Int → Value} {KB o0 : Obj} {v' fk : Value} {L : List Nat}
    (hf : FinW wr fb mb sv nx win dep g es clock F) (hk : okK (key g nx)) (hX1 : X.heap = wr.heap.push KB) (hX2 : X.os = wr.os ∧ X.tape = wr.tape ∧ X.output = wr.output)
    (hY : Y = Go.ChangeMaps.setBlock X mb (.map es1 clock1)) (hfk : fk = F (key g nx)) (hL : L = places g nx (key g nx))
    (hstep : ∀ v' : Value, ∃ es' clock', (∀ W : World, W.heap[mb]? = some (.map es1 clock1) → (Instr.entryStore 54 (.map (some mb)) (goInt st) v').run Try.prog W = .ok () (Go.ChangeMaps.setBlock W mb (.map es' clock'))) ∧
        ∀ (w3 : World) (xs : List Nat), w3.heap[mb]? = some (.map es' clock') → (∀ k' g', okK k' → (F k').ownBlock = some g' → g' < wr.heap.size → (F (key g nx)).ownBlock ≠ some g' → g' ≠ mb → w3.heap[g']? = wr.heap[g']?) → w3.ownsRow 0 3 1 v' xs.length (nums xs) →
          (v'.ownBlock = (F (key g nx)).ownBlock ∨ ∃ g', v'.ownBlock = some g' ∧ wr.heap.size ≤ g') → GrpW w3 mb es' clock' (upd F (key g nx) v') (upd (places g nx) (key g nx) xs))
    (hYM : Y.heap[mb]? = some (.map es1 clock1))
    (hown : w4.ownsRow 0 3 1 v' (L.length + 1) (nums L ++ [.int .i64 nx])) (hgrow : (Y.alloc o0).drew.grownBy w4 fk.ownBlock) (hat : v'.ownBlock = fk.ownBlock ∨ v'.ownBlock = some ((Y.alloc o0).drew).heap.size) :
    ∃ Z : World, (Instr.entryStore 54 (.map (some mb)) (.int .i64 st) v').run Try.prog w4 = .ok () Z ∧
      Z.cell? ⟨fb, 2, none⟩ = some (.int .i64 nx) ∧ (∀ o, Z.frozen? ⟨fb, o, none⟩ = false) ∧
      ∃ es clock F', FinW (Z.setCell ⟨fb, 2, none⟩ (.int .i64 ((nx + 1 : Nat) : Int))) fb mb sv (nx + 1) win dep g es clock F' ∧ Foot wr (Z.setCell ⟨fb, 2, none⟩ (.int .i64 ((nx + 1 : Nat) : Int))) (ffeet fb mb F) ∧ ∀ b, ffeet fb mb F' b → ffeet fb mb F b ∨ wr.heap.size ≤ b := by
  subst hfk; subst hL; subst hY
  obtain ⟨es', clock', hrun, hst⟩ := hstep v'
  have hml := hf.grp.lt
  obtain ⟨hfm, hfk⟩ := hf.apart
  have hfl := (Array.getElem?_eq_some_iff.1 hf.fin).1
  have hsX : X.heap.size = wr.heap.size + 1 := by rw [hX1]; simp
  have hsY : ((Go.ChangeMaps.setBlock X mb (.map es1 clock1)).alloc o0).drew.heap.size = wr.heap.size + 2 := by
    show ((X.heap.setIfInBounds mb _).push o0).size = _
    simp [hsX]
  have hb4 : w4.heap[mb]? = some (.map es1 clock1) := by
    rw [hgrow.block mb (by omega) (fun q => own_ne_map (hf.grp.own _ hk) hf.grp.block q.symm)]
    have : mb < (Go.ChangeMaps.setBlock X mb (.map es1 clock1)).heap.size := by simp [Go.ChangeMaps.setBlock]; omega
    exact (Below.heap_alloc _ _ _ this).trans hYM
  have hf4 : w4.heap[fb]? = wr.heap[fb]? := by
    rw [hgrow.block fb (by omega) (fun q => hfk _ hk q.symm)]
    show ((X.heap.setIfInBounds mb _).push o0)[fb]? = _
    rw [Array.getElem?_push, if_neg (by simp; omega), Array.getElem?_setIfInBounds, if_neg (Ne.symm hfm), hX1, Array.getElem?_push, if_neg (by omega)]
  refine ⟨Go.ChangeMaps.setBlock w4 mb (.map es' clock'), hrun w4 hb4, ?_, ?_, learn_round (es1 := es1) (clock1 := clock1) hf hk hX1 hX2.1 hX2.2.1 hX2.2.2 hgrow hown hat hst rfl rfl⟩
  · have : (Go.ChangeMaps.setBlock w4 mb (.map es' clock')).heap[fb]? = some _ := (show (w4.heap.setIfInBounds mb _)[fb]? = _ from by rw [Array.getElem?_setIfInBounds, if_neg (Ne.symm hfm)]).trans (hf4.trans hf.fin)
    exact (fcells this).2.2.1
  · have : (Go.ChangeMaps.setBlock w4 mb (.map es' clock')).heap[fb]? = some _ := (show (w4.heap.setIfInBounds mb _)[fb]? = _ from by rw [Array.getElem?_setIfInBounds, if_neg (Ne.symm hfm)]).trans (hf4.trans hf.fin)
    exact (fcells this).2.2.2.2.2.1

set_option maxHeartbeats 2000000 in
set_option maxRecDepth 100000 in
theorem learn_any (fb mb : Nat) (a : Option Addr) (n cap nx0 to : Nat) (win dep : Int) (g : Nat → Int) (es0 : Array MapEntry) (clock0 : Nat) (F0 : Int × Int × Int → Value) (w : World)
    (hf : FinW w fb mb (.slice a n cap) nx0 win dep g es0 clock0 F0) (ht : Txt w a n g) (hoff : Off a (ffeet fb mb F0)) (hg : ∀ i, i < n → 0 ≤ g i ∧ g i ≤ 255) (hn : n ≤ 1048576) (hcap : n ≤ cap) (hcap2 : cap ≤ maxLen) (hto : to ≤ 1048576) (hnx : nx0 ≤ n) :
    Calls Try.prog 27 #[.pointer (some ⟨fb, 0, none⟩), .int .i64 to] w fun e w' => e = .returned (.tuple #[]) ∧
      ∃ es clock F, FinW w' fb mb (.slice a n cap) (max nx0 (min to (n - 2))) win dep g es clock F ∧ Foot w w' (ffeet fb mb F0) ∧ ∀ b, ffeet fb mb F b → ffeet fb mb F0 b ∨ w.heap.size ≤ b := by
  have HF0 := Lib.hid hf
  have HT := Lib.hid ht
  have HO := Lib.hid hoff
  have HG := Lib.hid hg
  unfold maxLen at hcap2
  clear hf ht hoff hg
  go_enter Try.func27, Try.ntmps27
  go_wp2_with fail
  go_loopw [] (fun wr => ∃ (nx : Nat) (es : Array MapEntry) (clock : Nat) (F : Int × Int × Int → Value), nx0 ≤ nx ∧ nx ≤ n ∧ nx ≤ max nx0 (min to (n - 2)) ∧ FinW wr fb mb (.slice a n cap) nx win dep g es clock F ∧ Foot w wr (ffeet fb mb F0) ∧ ∀ b, ffeet fb mb F b → ffeet fb mb F0 b ∨ w.heap.size ≤ b)
    (fun wr => n - (intOf ((wr.cell? ⟨fb, 2, none⟩).getD undef)).toNat)
  case atStart => exact ⟨nx0, es0, clock0, F0, Nat.le_refl _, hnx, by omega, HF0.out, Foot.refl _ _, fun b h => .inl h⟩
  case round =>
    obtain ⟨nx, es, clock, F, h0, h1, h2, hf, hfoot, hfeet⟩ := hrel
    obtain ⟨c0, c1, c2, c3, c4, cf, clt⟩ := fcells hf.fin
    clear HF0
    have HF := Lib.hid hf
    have HFT := Lib.hid hfoot
    have HFF := Lib.hid hfeet
    clear hf hfoot hfeet
    by_cases hlt : nx < to
    · have d1 : decide (nx < to) = true := by simp; omega
      by_cases h3 : nx + 3 ≤ n
      · have d2 : decide ((nx : Int) + 3 ≤ n) = true := by simp; omega
        have hw1 : IntKind.i64.wrap ((nx : Int) + 3) = (nx : Int) + 3 := by rw [IntKind.wrap_i64]; omega
        obtain ⟨b, off, rfl, hbl, hcc⟩ := (HT.out).pos (by omega)
        go_wp2_with fail
        go_quiet (fail)
        obtain ⟨W, hW⟩ : ∃ W, W = wr.drewN nq := ⟨_, rfl⟩
        rw [← hW]
        have HW := Lib.hid hW
        have HWF : Hid (W.heap = wr.heap ∧ W.os = wr.os ∧ W.tape = wr.tape ∧ W.output = wr.output) := Lib.hid (by rw [hW]; exact ⟨rfl, rfl, rfl, rfl⟩)
        have kk : ∀ i, i < 3 → wr.cell? ⟨b, off + (nx + i), none⟩ = some (.int .u8 (g (nx + i))) := fun i hi => (HFT.out.block b hbl (HO.out b off rfl) |> fun e => (World.cell?_of_block e).trans (hcc (nx + i) (by omega)))
        have k0 : W.cell? ⟨b, off + nx, none⟩ = some (.int .u8 (g nx)) := by rw [hW]; exact kk 0 (by omega)
        have k1 : W.cell? ⟨b, off + nx + 1, none⟩ = some (.int .u8 (g (nx + 1))) := by rw [hW]; exact kk 1 (by omega)
        have k2 : W.cell? ⟨b, off + nx + 2, none⟩ = some (.int .u8 (g (nx + 2))) := by rw [hW]; exact kk 2 (by omega)
        have c0' : W.cell? ⟨fb, 0, none⟩ = some (.slice (some ⟨b, off, none⟩) n cap) := by rw [hW]; exact c0
        have c2' : W.cell? ⟨fb, 2, none⟩ = some (.int .i64 nx) := by rw [hW]; exact c2
        have hat : ∀ w, (Instr.arrayAt 61 (.slice (some ⟨b, off + nx, none⟩) (n - nx) (cap - nx))).run Try.prog w = .ok (.pointer (some ⟨b, off + nx, none⟩)) w := fun w => run_arrayAt w 61 _ 3 _ _ _ Try.underlying61 (by omega)
        have m0 : ∀ o, (W.alloc o).cell? ⟨b, off + nx, none⟩ = some (.int .u8 (g nx)) := fun o => cell_alloc (by exact k0) o
        have m1 : ∀ o, (W.alloc o).cell? ⟨b, off + nx + 1, none⟩ = some (.int .u8 (g (nx + 1))) := fun o => cell_alloc (by exact k1) o
        have m2 : ∀ o, (W.alloc o).cell? ⟨b, off + nx + 2, none⟩ = some (.int .u8 (g (nx + 2))) := fun o => cell_alloc (by exact k2) o
        have f0 : ∀ o, (W.alloc o).cell? ⟨fb, 0, none⟩ = some (.slice (some ⟨b, off, none⟩) n cap) := fun o => cell_alloc (by exact c0') o
        have f2 : ∀ o, (W.alloc o).cell? ⟨fb, 2, none⟩ = some (.int .i64 nx) := fun o => cell_alloc (by exact c2') o
        clear hcc c0 c1 c2 c3 c4 hW
        have e1 : ¬ cap = nx := by omega
        have e2 : nx ≤ n := by omega
        have e3 : 3 ≤ n - nx := by omega
        go_wp2_with fail
        go_region
        go_wp2_with fail
        have hok : okK (key g nx) := ⟨HG.out nx (by omega), HG.out (nx + 1) (by omega), HG.out (nx + 2) (by omega)⟩
        obtain ⟨KB, hKB⟩ : ∃ KB, KB = Obj.cells #[.int .u8 (g nx), .int .u8 (g (nx + 1)), .int .u8 (g (nx + 2))] 61 (0, 0) := ⟨_, rfl⟩
        obtain ⟨X, hX⟩ : ∃ X, X = (W.alloc (.cells #[.int .u8 (g nx), .int .u8 (g (nx + 1)), .int .u8 (g (nx + 2))] 61)).drew := ⟨_, rfl⟩
        rw [← hX]
        have hX1 : X.heap = wr.heap.push KB := by rw [hX, hKB, ← HWF.out.1]; rfl
        have hX2 : X.os = wr.os ∧ X.tape = wr.tape ∧ X.output = wr.output := by rw [hX]; exact HWF.out.2
        have hXb : ∀ j, j < wr.heap.size → X.heap[j]? = wr.heap[j]? := fun j hj => by rw [hX1, Array.getElem?_push, if_neg (by omega)]
        have hXs : X.heap.size = wr.heap.size + 1 := by rw [hX1]; simp
        have hXk : X.heap[wr.heap.size]? = some (.cells #[.int .u8 (g nx), .int .u8 (g (nx + 1)), .int .u8 (g (nx + 2))] 61 (0, 0)) := by rw [hX1, hKB]; simp
        obtain ⟨kb, hkb⟩ : ∃ kb, kb = W.heap.size := ⟨_, rfl⟩
        rw [← hkb]
        have hkb2 : kb = wr.heap.size := by rw [hkb, HWF.out.1]
        rw [← hkb2] at hXk
        obtain ⟨q0, q1, q2, -, qlt⟩ := cells3 hXk
        obtain ⟨r0, r1, r2, r3, r4, rf, rlt⟩ := fcells ((hXb fb clt).trans HF.out.fin)
        obtain ⟨st, es1, clock1, hme, hstep⟩ := HF.out.grp.step hok
        have hmX : X.heap[mb]? = some (.map es clock) := (hXb mb HF.out.grp.lt).trans HF.out.grp.block
        obtain ⟨Y, hY⟩ : ∃ Y, Y = Go.ChangeMaps.setBlock X mb (.map es1 clock1) := ⟨_, rfl⟩
        have hmlt : mb < X.heap.size := (Array.getElem?_eq_some_iff.1 hmX).1
        obtain ⟨fk, hfk⟩ : ∃ fk, fk = F (key g nx) := ⟨_, rfl⟩
        have hme1 : (Instr.mapEntry 54 (.map (some mb)) (.agg #[.int .u8 (g nx), .int .u8 (g (nx + 1)), .int .u8 (g (nx + 2))])).run Try.prog X.drew = .ok (.tuple #[fk, .int .i64 st]) Y.drew := by
          rw [hfk, hY]; exact hme X.drew hmX
        have hme2 : (Instr.mapEntry 54 (.map (some mb)) (.agg #[.int .u8 (g nx), .int .u8 (g (nx + 1)), .int .u8 (g (nx + 2))])).run Try.prog (X.alloc (.cells #[.int .i64 nx] 3)).drew = .ok (.tuple #[fk, .int .i64 st]) (Y.alloc (.cells #[.int .i64 nx] 3)).drew := by
          rw [hfk, hY, ← setBlock_alloc hmlt]; exact hme _ ((Below.heap_alloc _ _ _ hmlt).trans hmX)
        have hYs : Y.heap.size = X.heap.size := by rw [hY]; simp [Go.ChangeMaps.setBlock]
        have hYb : ∀ j, j ≠ mb → Y.heap[j]? = X.heap[j]? := fun j hj => by rw [hY]; show (X.heap.setIfInBounds mb _)[j]? = _; rw [Array.getElem?_setIfInBounds, if_neg (Ne.symm hj)]
        have y2 : Y.cell? ⟨fb, 2, none⟩ = some (.int .i64 nx) := (World.cell?_of_block (hYb fb HF.out.apart.1)).trans r2
        have x1 : ∀ o, (X.alloc o).cell? ⟨fb, 1, none⟩ = some (.map (some mb)) := fun o => cell_alloc r1 o
        have x2 : ∀ o, (X.alloc o).cell? ⟨fb, 2, none⟩ = some (.int .i64 nx) := fun o => cell_alloc r2 o
        have z0 : ∀ o, (X.alloc o).cell? ⟨kb, 0, none⟩ = some (.int .u8 (g nx)) := fun o => cell_alloc q0 o
        have z1 : ∀ o, (X.alloc o).cell? ⟨kb, 1, none⟩ = some (.int .u8 (g (nx + 1))) := fun o => cell_alloc q1 o
        have z2 : ∀ o, (X.alloc o).cell? ⟨kb, 2, none⟩ = some (.int .u8 (g (nx + 2))) := fun o => cell_alloc q2 o
        have HX1 := Lib.hid hX1
        have HX2 := Lib.hid hX2
        have HY := Lib.hid hY
        have HFK := Lib.hid hfk
        have HSTEP := Lib.hid hstep
        have HMX := Lib.hid hmX
        have HXS := Lib.hid hXs
        have HYM : Hid (Y.heap[mb]? = some (.map es1 clock1)) := by rw [hY]; show (X.heap.setIfInBounds mb _)[mb]? = _; rw [Array.getElem?_setIfInBounds, if_pos rfl, if_pos hmlt]
        obtain ⟨L, hL⟩ : ∃ L, L = places g nx (key g nx) := ⟨_, rfl⟩
        have hLl : L.length ≤ nx := by rw [hL]; exact places_length _ _ _
        have HOWN : Hid (Y.ownsRow 0 3 1 fk L.length (nums L)) := by
          rw [hfk, hL]
          refine own_keep (HF.out.grp.own _ hok) fun j hj hlt => ?_
          rw [hYb j (fun q => own_ne_map (HF.out.grp.own _ hok) HF.out.grp.block (by rw [hj, q])), hXb j hlt]
        have HLL := Lib.hid hL
        obtain ⟨i0, hi, hz0, hz1, hz2⟩ := info_parts info3
        clear k0 k1 k2 c0' c2' hat m0 m1 m2 f0 f2 r0 r3 r4 hme hXk hXb hL hX hKB hkb hkb2 hX1 hX2 hY hfk hstep hmX hXs hYb
        go_wp2_with fail
        go_region_law (refine step_append_at rfl (.tmp 47) (.tmp 52) 62 rfl 0 3 i0 (.int .i64 0) 1 8 Try.underlying62 hi hz0 hz1 hz2 rfl (by decide) fk L.length (nums L) (by simp [Act.eval, Act.put]) (by exact (HOWN.out.alloc _).drew) ⟨X.heap.size, 0, none⟩ 1 1 [.int .i64 nx] (by simp [Act.eval, Act.put]) rfl (by rw [← hYs]; exact cell_one_new _ _ _) (by simp [Value.oneCell']) (by unfold maxLen; omega) (by omega) (Nat.zero_le _) ?_; intro v' w4 hown4 hgrow4 hat4; obtain ⟨Z, hes, H7⟩ := learn_law HF.out hok HX1.out HX2.out HY.out HFK.out HLL.out HSTEP.out HYM.out hown4 hgrow4 hat4; have f2' := H7.1; have ff' := H7.2.1; have HH := Lib.hid H7; clear hown4 hgrow4 hat4 H7)
        all_goals
          go_wp2
          obtain ⟨es2, clock2, F2, g1, g2, g3⟩ := HH.out.2.2
          have hcast : (((nx + 1 : Nat) : Int)) = (nx : Int) + 1 := by omega
          rw [hcast] at g1 g2
          go_roundw
          case rel => exact ⟨nx + 1, es2, clock2, F2, by omega, by omega, by omega, g1, HFT.out.trans g2 (fun b hlt' hb => (HFF.out b hb).resolve_right (by omega)), fun b hb => (g3 b hb).elim (HFF.out b) (fun q => .inr (Nat.le_trans HFT.out.size q))⟩
          case measure =>
            have e1 := (fcells g1.fin).2.2.1
            have e2 := (fcells HF.out.fin).2.2.1
            rw [e1, e2]
            simp [intOf]
            omega
      · have d2 : decide ((nx : Int) + 3 ≤ n) = false := by simp; omega
        have hw1 : IntKind.i64.wrap ((nx : Int) + 3) = (nx : Int) + 3 := by rw [IntKind.wrap_i64]; omega
        go_wp2_with fail
        go_quiet (fail)
        go_wp2
        go_end0
        refine ⟨rfl, es, clock, F, ?_, HFT.out.drewN _, HFF.out⟩
        rw [show max nx0 (min to (n - 2)) = nx by omega]
        exact HF.out.drewN _
    · have d1 : decide (nx < to) = false := by simp; omega
      go_wp2_with fail
      go_quiet (fail)
      go_wp2
      go_end0
      refine ⟨rfl, es, clock, F, ?_, HFT.out.drewN _, HFF.out⟩
      rw [show max nx0 (min to (n - 2)) = nx by omega]
      exact HF.out.drewN _
end Go.Proofs.Ytinmfkbppgjcpaa.Lz
