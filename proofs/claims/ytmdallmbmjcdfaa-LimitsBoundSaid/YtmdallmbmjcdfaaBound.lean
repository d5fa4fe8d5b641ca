/- LimitsBound: the walk. -/
import Derived.Test.YtmdallmbmjcdfaaKnow
import Derived.Test.YtmdallmbmjcdfaaRow
set_option linter.unusedVariables false
namespace Go.Proofs.Ytmdallmbmjcdfaa.Bnd
open Go.RowKit Go.Proofs.Ytmdallmbmjcdfaa.Lm

theorem info3 : (Try.prog.info? 3).map (fun i => (i.zero, i.size, i.bytes)) = some (some (.int .i64 0), 1, 8) := by kernel_rfl

theorem tmod_bd (x : Int) : -999 ≤ x.tmod 1000 ∧ x.tmod 1000 ≤ 999 := by
  have h1 := Int.tmod_lt_of_pos x (show (0 : Int) < 1000 by omega)
  have h2 := Int.lt_tmod_of_pos x (show (0 : Int) < 1000 by omega)
  omega

theorem ownsRow_cell1 {w : World} {base : Nat} {t : TypeId} {va : Option Addr} {vc n : Nat} {xs : List Value} (h : w.ownsRow base t 1 (.slice va n vc) n xs) {j : Nat} {u : Value} (hj : xs[j]? = some u) : ∃ g, va = some ⟨g, 0, none⟩ ∧ w.cell? ⟨g, j, none⟩ = some u := by
  obtain ⟨h1, h2⟩ := h
  have hjl := (List.getElem?_eq_some_iff.1 hj).1
  rcases h2 with ⟨_, h0⟩ | ⟨g, cap, cur, hv, _, hg, hc, _, hsz, htk⟩
  · omega
  · cases hv
    refine ⟨g, rfl, ?_⟩
    rw [← htk, List.getElem?_take_of_lt (by omega)] at hj
    simp only [World.cell?, hg]
    simpa using hj

def Rel (w wr : World) (b : Nat) (R full : Int) (len : Nat) (now v i : Value) : Prop :=
  ∃ (k : Nat) (nw : Int) (ts : List Int) (s : LS), i = .int .i64 k ∧ now = .int .i64 nw ∧ k ≤ len ∧ k ≤ 300 ∧ nw ≤ 999 * k ∧ Lm.Loc w wr b s ∧ Bd R full s nw ts ∧ wr.ownsRow 0 3 1 v ts.length (ts.map (Value.int .i64)) ∧ (∀ g, v.ownBlock = some g → w.heap.size ≤ g) ∧ ts.length ≤ k

set_option maxHeartbeats 4000000 in
set_option maxRecDepth 100000 in
theorem walk (a0 a1 : Int) (a : Option Addr) (len cap : Nat) (Z : Nat → Int) (w : World) (w0 : (Lit.int .i64 a0).wf = true) (w1 : (Lit.int .i64 a1).wf = true) (hl : len ≤ maxLen) (hz : ∀ i, i < len → (Lit.int .i64 (Z i)).wf = true) (hr : RowAt w a len fun i => .int .i64 (Z i)) :
    Calls Try.prog 3 #[.int .i64 a0, .int .i64 a1, .slice a len cap] w fun e w' => e = .returned (.bool true) ∧ Below w.heap.size w w' := by
  have HR := Lib.hid hr
  have HZ := Lib.hid hz
  clear hr hz
  have hl' : len ≤ 9223372036854775807 := by unfold maxLen at hl; omega
  clear hl w0 w1
  obtain ⟨t0, t0'⟩ := tmod_bd a0
  obtain ⟨t1, t1'⟩ := tmod_bd a1
  go_enter Try.func3, Try.ntmps3
  go_wp2_with fail
  simp only [show (a0.tmod 1000 + 1000) % 1000 = a0.tmod 1000 % 1000 from by omega, show (a1.tmod 1000 + 1000) % 1000 = a1.tmod 1000 % 1000 from by omega]
  have hR1 : 1 ≤ 1 + a0.tmod 1000 % 1000 := by omega
  have hR2 : 1 + a0.tmod 1000 % 1000 ≤ 1000 := by omega
  have hB1 : 0 ≤ a1.tmod 1000 % 1000 := by omega
  have hB2 : a1.tmod 1000 % 1000 ≤ 999 := by omega
  generalize 1 + a0.tmod 1000 % 1000 = R at hR1 hR2 ⊢
  generalize a1.tmod 1000 % 1000 = Bu at hB1 hB2 ⊢
  refine (new_loc w w R Bu 1 (Below.refl _ _) (by unfold okArgs; omega)).mono ?_
  rintro e u1 ⟨rfl, h1, -⟩
  have H1 := Lib.hid h1
  clear h1
  go_wp2_with (first | (go_at_call 9; refine (num_any 0 _ (by omega) (by omega)).mono ?_; rintro e w' ⟨rfl, rfl⟩) | (go_at_call 10; refine (knows_any _).mono ?_; rintro e u2 ⟨rfl, hb'⟩; have HB' := Lib.hid hb'; clear hb'))
  have hloc : Lm.Loc w u2 (w.heap.size + 1) (mk R Bu 1) := H1.out.below HB'.out
  clear H1 HB'
  have hbd0 : Bd R (R + Bu) (mk R Bu 1) 0 [] := ⟨mk_ok (by unfold okArgs; omega), rfl, rfl, rfl, by simp [mk], by omega, by simp, by simp, .inl ⟨rfl, rfl⟩⟩
  generalize w.heap.size + 1 = b at hloc ⊢
  go_loopw [9, 10, 11] (fun now v i wr => Rel w wr b R (R + Bu) len now v i) (fun _ _ i _ => 300 - (intOf i).toNat)
  case atStart => exact ⟨0, 0, [], _, rfl, rfl, by omega, by omega, by omega, hloc, hbd0, World.ownsRow_nil _ _ _ _, by simp [Value.ownBlock], by simp⟩
  case round =>
    obtain ⟨k, nw, ts, s, rfl, rfl, hk, hk3, hnw, hlc, hbd, hrow, hvb, htl⟩ := hrel
    have HL := Lib.hid hlc
    have HB := Lib.hid hbd
    have HW := Lib.hid hrow
    have HV := Lib.hid hvb
    have hn0 := hbd.n0
    clear hlc hbd hrow hvb hbd0 hloc
    by_cases hgo : k < len ∧ k < 300
    · obtain ⟨hlt, hlt3⟩ := hgo
      · obtain ⟨gb, off, rfl, hbl, hcell⟩ := HR.out k hlt
        have hcw : wr.cell? ⟨gb, off + k, none⟩ = some (.int .i64 (Z k)) := by rw [HL.out.2.1.cell (p := ⟨gb, off + k, none⟩) hbl]; exact hcell
        clear hcell
        obtain ⟨z0, z0'⟩ := tmod_bd (Z k)
        go_wp2_with fail
        have hd1 : nw ≤ nw + (Z k).tmod 1000 % 1000 := by omega
        have hd2 : nw + (Z k).tmod 1000 % 1000 ≤ nw + 999 := by omega
        generalize nw + (Z k).tmod 1000 % 1000 = nx at hd1 hd2 ⊢
        have hst := HB.out.step hd1 (by unfold last; omega)
        refine (allow_locK HL.out ka nx).mono ?_
        rintro e u ⟨rfl, hlc, hkt⟩
        have hrow : u.ownsRow 0 3 1 u10 ts.length (ts.map (Value.int .i64)) := hkt.row (by decide) (by decide) HW.out
        have HL2 := Lib.hid hlc
        have HW2 := Lib.hid hrow
        clear hlc hkt hrow HL HW
        by_cases hp : 0 < left s ka nx
        · rw [if_pos hp] at hst
          have HS := Lib.hid hst
          clear hst
          rw [decide_eq_true hp]
          clear hp
          obtain ⟨i0, hi, hz0, hz1, hz2⟩ := info_parts info3
          go_wp2_with (at_builtin; refine wpList_append_own_at _ rfl _ _ 22 rfl 0 3 i0 (.int .i64 0) 1 8 Try.underlying22 hi hz0 hz1 hz2 rfl (by decide) _ _ _ rfl (HW2.out.alloc _) ⟨u.heap.size, 0, none⟩ 1 1 [.int .i64 nx] rfl rfl (cell_one_new _ _ _) ?c2 ?c3 ?c4 (Nat.zero_le _) ?_)
          case c2 => simp [Value.oneCell']
          case c3 => unfold maxLen; omega
          case c4 => omega
          intro v' w3 hown' hgrow hnil hat
          obtain ⟨va, vc, hv⟩ := Lm.ownsRow_shape hown'
          have hl3 := HL2.out.row (by decide) (by decide) HW2.out HV.out hgrow
          have hv3 : ∀ g, v'.ownBlock = some g → w.heap.size ≤ g := by
            intro g hg
            rcases hat with hat | hat
            · exact HV.out g (hat.symm.trans hg)
            · rw [hat] at hg; cases hg; have := HL2.out.2.1.size; simp; omega
          have H3 := Lib.hid (And.intro hown' (And.intro hl3 hv3))
          subst hv
          clear hown' hgrow hat hl3 hv3 hnil HL2 HW2
          go_wp2
          go_roundw
          case rel =>
            obtain ⟨hown', hl3, hv3⟩ := H3.out
            exact ⟨k + 1, nx, ts ++ [nx], _, by go_num, rfl, by omega, by omega, by omega, hl3, HS.out, by simpa using hown', hv3, by simp; omega⟩
          case measure => simp [intOf]; omega
        · rw [if_neg hp] at hst
          have HS := Lib.hid hst
          clear hst
          rw [decide_eq_false hp]
          clear hp
          go_wp2
          go_roundw
          case rel => exact ⟨k + 1, nx, ts, _, by go_num, rfl, by omega, by omega, by omega, HL2.out, HS.out, HW2.out, HV.out, by omega⟩
          case measure => simp [intOf]; omega
    · obtain ⟨va, vc, rfl⟩ := Lm.ownsRow_shape HW.out
      have hbl := HL.out.2.1
      have HBL := Lib.hid hbl
      clear hbl
      obtain ⟨wo, rfl⟩ : ∃ wo : World, wo = wr := ⟨_, rfl⟩
      have hcl : ∀ (j : Nat) (t : Int), ts[j]? = some t → ∃ g, va = some ⟨g, 0, none⟩ ∧ wo.cell? ⟨g, j, none⟩ = some (.int .i64 t) := fun j t hj => ownsRow_cell1 HW.out (by simp [hj])
      have HC := Lib.hid hcl
      have hpr := HB.out.pairs
      have hea := HB.out.each
      have HP := Lib.hid hpr
      have HE := Lib.hid hea
      clear hcl hpr hea
      have hd : (len ≤ k) ∨ (k < len ∧ 300 ≤ k) := by omega
      clear hgo
      rcases hd with hd | ⟨hd, hd3⟩
      all_goals
        go_wp2
        go_loopw [12] (fun i wr' => ∃ n : Nat, i = .int .i64 n ∧ n ≤ ts.length ∧ Hid (∃ q, wr' = wo.drewN q)) (fun i _ => ts.length - (intOf i).toNat)
        case atStart => exact ⟨0, rfl, by omega, 0, rfl⟩
        case round =>
          obtain ⟨n, rfl, hn, hq⟩ := hrel
          by_cases hnl : n < ts.length
          · go_wp2
            obtain ⟨q, rfl⟩ := hq.out
            clear hq
            go_loopw [13] (fun i wr' => ∃ j : Nat, i = .int .i64 j ∧ n ≤ j ∧ j ≤ ts.length ∧ Hid (∃ q, wr' = wo.drewN q)) (fun i _ => ts.length - (intOf i).toNat)
            case atStart => exact ⟨n, rfl, by omega, by omega, q, rfl⟩
            case round =>
              obtain ⟨j, rfl, hj1, hj2, hq⟩ := hrel
              obtain ⟨q', rfl⟩ := hq.out
              clear hq
              by_cases hjl : j < ts.length
              · obtain ⟨ti, hti⟩ : ∃ x, ts[n]? = some x := ⟨ts[n], List.getElem?_eq_getElem hnl⟩
                obtain ⟨tj, htj⟩ : ∃ x, ts[j]? = some x := ⟨ts[j], List.getElem?_eq_getElem hjl⟩
                obtain ⟨g, hva, ci⟩ := HC.out n ti hti
                obtain ⟨g', hva', cj⟩ := HC.out j tj htj
                have hgg : g' = g := by rw [hva] at hva'; cases hva'; rfl
                subst hgg
                have hpp := HP.out n j ti tj hj1 hti htj
                have h1 := HE.out ti (List.mem_of_getElem? hti)
                have h2 := HE.out tj (List.mem_of_getElem? htj)
                have hti' : ti ≤ 300000 := by omega
                have htj' : tj ≤ 300000 := by omega
                obtain ⟨h1a, h1b⟩ := h1
                obtain ⟨h2a, h2b⟩ := h2
                have hm1 : -300000000 ≤ R * (tj - ti) := by
                  have := Int.mul_le_mul_of_nonneg_left (show -300000 ≤ tj - ti by omega) (show 0 ≤ R by omega)
                  have := Int.mul_le_mul_of_nonneg_right hR2 (show (0 : Int) ≤ 300000 by omega)
                  omega
                have hm2 : R * (tj - ti) ≤ 300000000 := by
                  have := Int.mul_le_mul_of_nonneg_left (show tj - ti ≤ 300000 by omega) (show 0 ≤ R by omega)
                  have := Int.mul_le_mul_of_nonneg_right hR2 (show (0 : Int) ≤ 300000 by omega)
                  omega
                clear hti htj hva'
                subst hva
                have e1 : IntKind.i64.wrap ((j : Int) - n) = (j : Int) - n := by rw [IntKind.wrap_i64]; omega
                have e2 : IntKind.i64.wrap ((j : Int) - n + 1) = (j : Int) - n + 1 := by rw [IntKind.wrap_i64]; omega
                have e3 : IntKind.i64.wrap (R + Bu) = R + Bu := by rw [IntKind.wrap_i64]; omega
                have e4 : IntKind.i64.wrap (tj - ti) = tj - ti := by rw [IntKind.wrap_i64]; omega
                have e5 : IntKind.i64.wrap (R * (tj - ti)) = R * (tj - ti) := by rw [IntKind.wrap_i64]; omega
                have e6 : IntKind.i64.wrap (R + Bu + R * (tj - ti)) = R + Bu + R * (tj - ti) := by rw [IntKind.wrap_i64]; omega
                have e7 : decide (R + Bu + R * (tj - ti) < (j : Int) - n + 1) = false := by simp; omega
                go_wp2
                go_quiet (fail)
                clear e1 e2 e3 e4 e5 e6 e7
                go_wp2
                go_roundw
                case rel => exact ⟨j + 1, by go_num, by omega, by omega, q' + nq, by simp⟩
                case measure => simp [intOf]; omega
              · go_wp2
                go_roundw
                case rel => exact ⟨n + 1, by go_num, by omega, q', rfl⟩
                case measure => simp [intOf]; omega
          · go_wp2
            go_ret
            obtain ⟨q, rfl⟩ := hq.out
            exact ⟨rfl, belowN HBL.out⟩
end Go.Proofs.Ytmdallmbmjcdfaa.Bnd
