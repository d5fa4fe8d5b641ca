/- The contracts of the finder's candidates: the closure, the iterator. -/
import Derived.Test.YtinmfkbppgjcpaaLrn
import Derived.Test.YtinmfkbppgjcpaaQt
import Derived.RangeFuncNested
import Derived.RangeFuncBound
import Derived.RangeFuncCalls
import Derived.RangeFuncLeaves
import Derived.Shelf.Abstract
import Derived.Shelf.RegionOpen
import Derived.OwnWalkIn
import Derived.TacticsInMore
import Derived.LoopNIn
import Derived.LoopIn
import Derived.BigRegionIn
import Derived.Sort.QuietIn
set_option linter.unusedVariables false
namespace Go.Proofs.Ytinmfkbppgjcpaa.Lz
open Go.RowKit LzP Go.Shelf

attribute [local go_sem] Oper.semAt_some

theorem cand_any (fb at' : Nat) (w : World) :
    CallsIn Fence.wide 4 Try.prog 31 #[.pointer (some ⟨fb, 0, none⟩), .int .i64 at'] w fun e w' => e = .returned (.func (.func 34) #[] #[.pointer (some ⟨w.heap.size + 1, 0, none⟩), .pointer (some ⟨w.heap.size, 0, none⟩)]) ∧
      w' = (w.alloc (.cells #[.pointer (some ⟨fb, 0, none⟩)] 53)).alloc (.cells #[.int .i64 at'] 3) := by
  refine callsIn_of_wp Try.func31 rfl trivial ?_ rfl
  simp only [Try.ntmps31, List.size_toArray, List.length_cons, List.length_nil, Nat.reduceAdd, Nat.reduceSub, Array.replicate_succ, Array.replicate_zero, List.push_toArray, List.append_toArray, List.nil_append, List.cons_append]
  gi_wp2
  go_ret
  exact ⟨rfl, rfl⟩

set_option maxRecDepth 100000 in
set_option maxHeartbeats 2000000 in
/-- no candidates: fewer than three bytes -/
theorem cand_short (n1 l fbx ab fb at' : Nat) (a : Option Addr) (n cap : Nat) (hn : n ≤ 1048576) (h3 : n < at' + 3) (hat : at' ≤ n) (J : List Nat → World → Prop) (W : World)
    (hA : W.cell? ⟨ab, 0, none⟩ = some (.int .i64 at')) (hB : W.cell? ⟨fbx, 0, none⟩ = some (.pointer (some ⟨fb, 0, none⟩))) (hf : W.cell? ⟨fb, 0, none⟩ = some (.slice a n cap)) (h0 : J [] W) (hJd : ∀ pre W q, J pre W → J pre (W.drewN q)) :
    CallsIn Fence.wide n1 Try.prog 34 #[.func (.yield l) #[] #[], .pointer (some ⟨ab, 0, none⟩), .pointer (some ⟨fbx, 0, none⟩)] W fun e W' => (∃ v, e = .returned v) ∧ J [] W' := by
  refine callsIn_of_wp Try.func34 rfl trivial ?_ rfl
  simp only [Try.ntmps34, List.size_toArray, List.length_cons, List.length_nil, Nat.reduceAdd, Nat.reduceSub, Array.replicate_succ, Array.replicate_zero, List.push_toArray, List.append_toArray, List.nil_append, List.cons_append]
  have hd : decide ((n : Int) < at' + 3) = true := by simp; omega
  have hw : IntKind.i64.wrap ((at' : Int) + 3) = (at' : Int) + 3 := by rw [IntKind.wrap_i64]; omega
  gi_wp2_with fail
  gi_quiet (fail)
  gi_wp2
  refine bodyPost_ret (results_none rfl _ _ _) rfl ?_
  exact ⟨⟨_, rfl⟩, hJd _ _ _ h0⟩

/-- what a round keeps: what lay ahead, and the iterator's two boxes -/
structure Kept (n₀ ab fbx : Nat) (W W' : World) : Prop where
  below : Below n₀ W W'
  a : W'.heap[ab]? = W.heap[ab]?
  f : W'.heap[fbx]? = W.heap[fbx]?
theorem Kept.refl (n₀ ab fbx : Nat) (W : World) : Kept n₀ ab fbx W W := ⟨Below.refl _ _, rfl, rfl⟩
theorem Kept.trans {n₀ ab fbx : Nat} {A B C : World} (h : Kept n₀ ab fbx A B) (k : Kept n₀ ab fbx B C) : Kept n₀ ab fbx A C := ⟨h.below.trans k.below, k.a.trans h.a, k.f.trans h.f⟩
theorem Kept.drewN (n₀ ab fbx : Nat) (W : World) (q : Nat) : Kept n₀ ab fbx W (W.drewN q) := ⟨belowN (Below.refl _ _), rfl, rfl⟩

set_option maxRecDepth 100000 in
set_option maxHeartbeats 4000000 in
/-- the candidates, the nearest first -/
theorem cand_long (n1 l n₀ fbx ab fb mb at' win dep : Nat) (a : Option Addr) (n cap : Nat) (g : Nat → Int) (es : Array MapEntry) (clock : Nat) (F : Int × Int × Int → Value) (hn1 : 1 ≤ n1) (hn : n ≤ 1048576) (h3 : at' + 3 ≤ n) (hcap : n ≤ cap) (hcap2 : cap ≤ maxLen) (hwin : win ≤ 32768) (hdep : dep ≤ 4096)
    (hg : ∀ i, i < n → 0 ≤ g i ∧ g i ≤ 255) (J Jx : List Nat → World → Prop)
    (hY : ∀ pre x W, x < at' → J pre W → pre.length < 4096 → YieldAt Fence.wide (n1 - 1) Try.prog l #[.int .i64 (x : Nat)] W fun e W' =>
      (e = .returned (.bool true) ∧ J (pre ++ [x]) W' ∧ Kept n₀ ab fbx W W') ∨ (e = .returned (.bool false) ∧ Jx (pre ++ [x]) W')) (W : World)
    (hA : W.cell? ⟨ab, 0, none⟩ = some (.int .i64 at')) (hB : W.cell? ⟨fbx, 0, none⟩ = some (.pointer (some ⟨fb, 0, none⟩))) (hfb : fb < n₀) (hfeet : ∀ k b, okK k → (F k).ownBlock = some b → b < n₀)
    (hf : FinW W fb mb (.slice a n cap) at' win dep g es clock F) (ht : Txt W a n g) (h0 : J [] W) (hJd : ∀ pre W q, J pre W → J pre (W.drewN q)) :
    CallsIn Fence.wide n1 Try.prog 34 #[.func (.yield l) #[] #[], .pointer (some ⟨ab, 0, none⟩), .pointer (some ⟨fbx, 0, none⟩)] W fun e W' => (∃ v, e = .returned v) ∧ (J (cs g n at' win at' dep) W' ∨ ∃ pre, Jx pre W') := by
  obtain ⟨b, off, rfl, hbl, hcc⟩ := ht.pos (by omega)
  have hok : okK (key g at') := ⟨hg at' (by omega), hg (at' + 1) (by omega), hg (at' + 2) (by omega)⟩
  have HOK := Lib.hid hok
  obtain ⟨C, hC⟩ : ∃ C, C = cs g n at' win at' dep := ⟨_, rfl⟩
  rw [← hC]
  have hC2 := hC
  rw [← it_cs g n at' win h3 at' dep (Nat.le_refl _)] at hC2
  have hown := hf.grp.own _ hok
  have hlook : ∀ q, (Instr.lookup 54 (.map (some mb)) (.agg #[.int .u8 (g at'), .int .u8 (g (at' + 1)), .int .u8 (g (at' + 2))]) false).run Try.prog (W.drewN q) = .ok (F (key g at')) (W.drewN q) := fun q => hf.grp.look hok _ hf.grp.block
  obtain ⟨v, hv⟩ : ∃ v, v = F (key g at') := ⟨_, rfl⟩
  rw [← hv] at hlook hown
  have hvb : ∀ b, v.ownBlock = some b → b < n₀ := fun b hb => hfeet _ b hok (by rw [← hv]; exact hb)
  have hpl := places_length g at' (key g at')
  have hplt := places_lt g at' (key g at')
  obtain ⟨L, hL⟩ : ∃ L, L = places g at' (key g at') := ⟨_, rfl⟩
  rw [← hL] at hC2 hown hpl hplt
  have HC := Lib.hid hC2
  have HOWN := Lib.hid hown
  have HVB := Lib.hid hvb
  have HPLT := Lib.hid hplt
  have k0 := hcc at' (by omega)
  have k1 := hcc (at' + 1) (by omega)
  have k2 := hcc (at' + 2) (by omega)
  rw [← Nat.add_assoc] at k1 k2
  obtain ⟨r0, r1, r2, r3, r4, rf, rlt⟩ := fcells hf.fin
  have hat : ∀ w, (Instr.arrayAt 61 (.slice (some ⟨b, off + at', none⟩) (n - at') (cap - at'))).run Try.prog w = .ok (.pointer (some ⟨b, off + at', none⟩)) w := fun w => run_arrayAt w 61 _ 3 _ _ _ Try.underlying61 (by omega)
  have hd : decide ((n : Int) < at' + 3) = false := by simp; omega
  have hw : IntKind.i64.wrap ((at' : Int) + 3) = (at' : Int) + 3 := by rw [IntKind.wrap_i64]; omega
  have e1 : ¬ cap = at' := by omega
  have e2 : at' ≤ n := by omega
  have HF := Lib.hid hf
  unfold maxLen at hcap2
  clear hok hC hC2 hown hv hvb hL hcc hfeet hplt hf ht hg
  have hrow : v = .slice none 0 0 ∧ L = [] ∨ ∃ gb c, v = .slice (some ⟨gb, 0, none⟩) L.length c ∧ gb < n₀ ∧ L.length ≤ c ∧ ∀ i x, L[i]? = some x → W.cell? ⟨gb, i, none⟩ = some (.int .i64 (x : Nat)) := by
    rcases HOWN.out.2 with ⟨e, h0⟩ | ⟨gb, c, cur, e, _, _, h1, _⟩
    · exact .inl ⟨e, List.length_eq_zero_iff.1 h0⟩
    · refine .inr ⟨gb, c, e, HVB.out gb (by rw [e]; rfl), h1, fun i x hx => ?_⟩
      have ho := HOWN.out
      rw [e] at ho
      exact own_cell ho (by simp [nums, hx])
  rcases hrow with ⟨rfl, rfl⟩ | ⟨gb, c, rfl, hgb, hlc, hcell⟩
  · have HC2 := Lib.hid (show C = [] by rw [HC.out]; simp [it])
    refine callsIn_of_wp Try.func34 rfl trivial ?_ rfl
    simp only [Try.ntmps34, List.size_toArray, List.length_cons, List.length_nil, Nat.reduceAdd, Nat.reduceSub, Array.replicate_succ, Array.replicate_zero, List.push_toArray, List.append_toArray, List.nil_append, List.cons_append]
    gi_wp2_with fail
    gi_quiet (fail)
    gi_wp2_with fail
    gi_quiet (fail)
    gi_wp2_with fail
    gi_loopw [5, 6] (fun i k wr => i = .int .i64 (-1) ∧ k = .int .i64 0 ∧ J [] wr) (fun _ _ _ => 0)
    case atStart => exact ⟨rfl, rfl, hJd _ _ _ h0⟩
    case round =>
      obtain ⟨rfl, rfl, hJs⟩ := hrel
      gi_wp2
      go_end0
      exact ⟨⟨_, rfl⟩, .inl (by rw [HC2.out]; exact hJs)⟩
  · have hll : L.length ≤ 1048576 := by omega
    refine callsIn_of_wp Try.func34 rfl trivial ?_ rfl
    simp only [Try.ntmps34, List.size_toArray, List.length_cons, List.length_nil, Nat.reduceAdd, Nat.reduceSub, Array.replicate_succ, Array.replicate_zero, List.push_toArray, List.append_toArray, List.nil_append, List.cons_append]
    gi_wp2_with fail
    gi_quiet (fail)
    gi_wp2_with fail
    gi_quiet (fail)
    gi_wp2_with fail
    gi_loopw [5, 6] (fun i k wr => ∃ (m t : Nat) (pre : List Nat), m + t = L.length ∧ i = .int .i64 ((m : Int) - 1) ∧ k = .int .i64 t ∧ pre.length = t ∧ Hid (C = pre ++ it win at' (L.take m).reverse (dep - t)) ∧ J pre wr ∧ Kept n₀ ab fbx W wr) (fun i _ _ => (intOf i + 1).toNat)
    case atStart =>
      refine ⟨L.length, 0, [], by omega, by simp, rfl, rfl, Lib.hid ?_, hJd _ _ _ h0, ?_⟩
      · rw [HC.out, List.take_length]; rfl
      · exact Kept.drewN _ _ _ _ _
    case round =>
      obtain ⟨m, t, pre, hmt, rfl, rfl, hpl2, hC, hJs, hbel⟩ := hrel
      have HB := Lib.hid hbel
      have hA' := (World.cell?_of_block (a := ⟨ab, 0, none⟩) hbel.a).trans hA
      have hB' := (World.cell?_of_block (a := ⟨fbx, 0, none⟩) hbel.f).trans hB
      have c3 := (hbel.below.cell (p := ⟨fb, 3, none⟩) hfb).trans r3
      have c4 := (hbel.below.cell (p := ⟨fb, 4, none⟩) hfb).trans r4
      clear HC hbel
      cases m with
      | zero =>
        have HC2 := Lib.hid (show C = pre by rw [hC.out]; simp [it])
        clear hC
        gi_wp2
        go_end0
        exact ⟨⟨_, rfl⟩, .inl (by rw [HC2.out]; exact hJs)⟩
      | succ m =>
        have hs : (((m + 1 : Nat) : Int) - 1) = (m : Int) := by omega
        rw [hs]
        clear hs
        obtain ⟨x, hx⟩ : ∃ x, L[m]? = some x := ⟨L[m]'(by omega), List.getElem?_eq_getElem _⟩
        have hcx := (HB.out.below.cell (p := ⟨gb, m, none⟩) hgb).trans (hcell m x hx)
        have hxa := HPLT.out x (List.mem_of_getElem? hx)
        have hrev : (L.take (m + 1)).reverse = x :: (L.take m).reverse := by
          rw [List.take_add_one, hx]; simp
        have hC' := hC.out
        rw [hrev] at hC'
        have HC' := Lib.hid hC'
        obtain ⟨dd, hdd⟩ : ∃ dd, dd = at' - x := ⟨_, rfl⟩
        have hsub : (at' : Int) - (x : Int) = (dd : Int) := by omega
        have HDD := Lib.hid hdd
        have hml : m < L.length := by omega
        clear hC hC' hrev hx hdd
        by_cases h5 : dep ≤ t
        · have HC2 := Lib.hid (show C = pre by rw [HC'.out, show dep - t = 0 by omega]; simp [it])
          clear HC'
          gi_wp2
          go_end0
          exact ⟨⟨_, rfl⟩, .inl (by rw [HC2.out]; exact hJs)⟩
        · by_cases h6 : win < dd
          · have HC2 := Lib.hid (show C = pre by
              obtain ⟨f, hf⟩ : ∃ f, dep - t = f + 1 := ⟨dep - t - 1, by omega⟩
              rw [HC'.out, hf]; unfold it; rw [if_pos (by have := HDD.out; omega)]; simp)
            have d6 : decide (win < dd) = true := by simp; omega
            clear HC'
            gi_wp2_with fail
            refine wpIn_region_quiet_lit rfl (by kernel_rfl) (by kernel_rfl) ?_
            repeat (gi_big_quiet_step (fail))
            refine BigFrame.wpQuietIn_skip (fun _ _ _ _ => trivial) rfl ?_
            simp only [Act.put, List.setIfInBounds_toArray, List.set_cons_succ, List.set_cons_zero]
            repeat (gi_big_quiet_step (fail))
            refine wpQuietIn_nil ?_
            intro _ hw'
            obtain ⟨nq, hw''⟩ := hw'
            subst hw''
            gi_wp2
            refine bodyPost_ret (results_none rfl _ _ _) rfl ?_
            exact ⟨⟨_, rfl⟩, .inl (by rw [HC2.out]; exact hJd _ _ _ hJs)⟩
          · have d6 : decide (win < dd) = false := by simp; omega
            gi_wp2_with fail
            refine wpIn_region_qt 17 rfl (by kernel_rfl) (by kernel_rfl) ?_
            simp only [List.take_succ_cons, List.take_zero, List.drop_succ_cons, List.drop_zero]
            repeat (gi_big_quiet_step (fail))
            refine wpQuietIn_nil ?_
            intro _ hw'
            obtain ⟨nq, hw''⟩ := hw'
            subst hw''
            have hJ1 : J pre (wr.drewN nq) := hJd pre wr nq hJs
            obtain ⟨fn, tmps, assign, body, hy, hR⟩ := hY pre x (wr.drewN nq) hxa hJ1 (by omega)
            have HR := Lib.hid hR
            clear hR
            gi_wp2_with fail
            refine HR.out.mono ?_
            rintro e W3 (⟨rfl, hJ3, hk3⟩ | ⟨rfl, hJx3⟩)
            · have HK := Lib.hid hk3
              clear hk3 hy HR hJ1 hY hA' hB' c3 c4 hcx k0 k1 k2 hat hlook hcell hJs
              gi_wp2
              go_roundw
              case rel =>
                refine ⟨m, t + 1, pre ++ [x], by omega, by first | rfl | simp, by go_num, by simp; omega, Lib.hid ?_, hJ3, HB.out.trans ((Kept.drewN _ _ _ wr nq).trans HK.out)⟩
                obtain ⟨f, hf⟩ : ∃ f, dep - t = f + 1 := ⟨dep - t - 1, by omega⟩
                rw [HC'.out, hf, show dep - (t + 1) = f by omega]
                conv => lhs; unfold it
                rw [if_neg (by have := HDD.out; omega)]
                simp
              case measure => simp [intOf]
            · gi_wp2
              refine bodyPost_ret (results_none rfl _ _ _) rfl ?_
              exact ⟨⟨_, rfl⟩, .inr ⟨_, hJx3⟩⟩

theorem cs_lt (g : Nat → Int) (n j window d : Nat) : ∀ x ∈ cs g n j window j d, x < j := fun x hx => (cs_mem g n j window j d x (Nat.le_refl _) hx).1

theorem FinW.below {w w' : World} {fb mb : Nat} {sv : Value} {nx : Nat} {win dep : Int} {g : Nat → Int} {es : Array MapEntry} {clock : Nat} {F : Int × Int × Int → Value} (h : FinW w fb mb sv nx win dep g es clock F) (hb : Below w.heap.size w w') :
    FinW w' fb mb sv nx win dep g es clock F :=
  ⟨(hb.block fb (Array.getElem?_eq_some_iff.1 h.fin).1).trans h.fin, h.grp.keep (hb.block mb h.grp.lt) (fun _ b _ _ hlt => hb.block b hlt)⟩

/-- the finder's candidates are an iterator -/
theorem cand_stops (n1 n₀ fbx ab fb mb at' nx win dep : Nat) (a : Option Addr) (n cap : Nat) (g : Nat → Int) (es : Array MapEntry) (clock : Nat) (F : Int × Int × Int → Value) (W0 : World) (hn1 : 1 ≤ n1) (hn : n ≤ 1048576) (hat : at' < n) (hcap : n ≤ cap) (hcap2 : cap ≤ maxLen) (hwin : win ≤ 32768) (hdep : dep ≤ 4096)
    (hg : ∀ i, i < n → 0 ≤ g i ∧ g i ≤ 255) (hA : W0.heap[ab]? = some (.cells #[.int .i64 at'] 3 (0, 0))) (hB : W0.heap[fbx]? = some (.cells #[.pointer (some ⟨fb, 0, none⟩)] 53 (0, 0)))
    (hfb : fb < n₀) (hfeet : ∀ k b, okK k → (F k).ownBlock = some b → b < n₀) (hf : FinW W0 fb mb (.slice a n cap) nx win dep g es clock F) (hnx : at' + 3 ≤ n → nx = at') (ht : Txt W0 a n g) :
    SeqStopsK Fence.wide n1 Try.prog 34 #[.pointer (some ⟨ab, 0, none⟩), .pointer (some ⟨fbx, 0, none⟩)] (fun x : Fin at' => #[.int .i64 (x.val : Nat)]) (Kept n₀ ab fbx) (fun ys => ys.map (·.val) = cs g n at' win at' dep) (fun _ => True) 4096 W0 := by
  intro l J Jx W hW hJ hJx hY h0
  have hb : ∀ {k : Nat} {o : Obj}, W0.heap[k]? = some o → W.heap[k]? = some o := fun {k o} h => (hW.block k (Array.getElem?_eq_some_iff.1 h).1).trans h
  have hA1 : W.cell? ⟨ab, 0, none⟩ = some (.int .i64 at') := by simp [World.cell?, hb hA]
  have hB1 : W.cell? ⟨fbx, 0, none⟩ = some (.pointer (some ⟨fb, 0, none⟩)) := by simp [World.cell?, hb hB]
  have hJd : ∀ pre V q, J pre V → J pre (V.drewN q) := fun pre V q h => hJ pre V _ none h ⟨rfl, rfl, rfl, Nat.le_refl _, fun _ _ _ => rfl⟩ (fun _ e => by cases e)
  have hfW := hf.below hW
  have htW := ht.below hW
  by_cases h3 : at' + 3 ≤ n
  · have hnx' := hnx h3
    subst hnx'
    refine (cand_long n1 l n₀ fbx ab fb mb nx win dep a n cap g es clock F hn1 hn h3 hcap hcap2 hwin hdep hg (fun pre V => ∃ pre' : List (Fin nx), pre = pre'.map (·.val) ∧ J pre' V) (fun _ V => ∃ pre' : List (Fin nx), Jx pre' V) ?_ W hA1 hB1 hfb hfeet hfW htW ⟨[], rfl, h0⟩ ?_).mono ?_
    · rintro pre x W1 hx ⟨pre', rfl, hj⟩ hlen
      refine (hY pre' ⟨x, hx⟩ W1 hj (by simpa using hlen)).mono ?_
      rintro e V (⟨h1, h2, h4⟩ | ⟨h1, h2⟩)
      · exact .inl ⟨h1, ⟨_, by simp, h2⟩, h4⟩
      · exact .inr ⟨h1, _, h2⟩
    · rintro pre V q ⟨pre', e, h⟩
      exact ⟨pre', e, hJd _ _ _ h⟩
    · rintro e V ⟨he, ⟨pre', h1, h2⟩ | ⟨_, pre', h1⟩⟩
      · exact ⟨he, .inl ⟨pre', h1.symm, h2⟩⟩
      · exact ⟨he, .inr ⟨pre', trivial, h1⟩⟩
  · refine (cand_short n1 l fbx ab fb at' a n cap hn (by omega) (by omega) (fun pre V => ∃ pre' : List (Fin at'), pre = pre'.map (·.val) ∧ J pre' V) W hA1 hB1 ?_ ⟨[], rfl, h0⟩ ?_).mono ?_
    · exact (fcells hfW.fin).1
    · rintro pre V q ⟨pre', e, h⟩
      exact ⟨pre', e, hJd _ _ _ h⟩
    · rintro e V ⟨he, pre', h1, h2⟩
      exact ⟨he, .inl ⟨pre', h1.symm.trans (cs_end g n at' win (by omega) at' dep).symm, h2⟩⟩
end Go.Proofs.Ytinmfkbppgjcpaa.Lz
