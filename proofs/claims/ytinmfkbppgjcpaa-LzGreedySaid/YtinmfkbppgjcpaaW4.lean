/- LzGreedy answers true. -/
import Derived.Test.YtinmfkbppgjcpaaGreedyP
import Derived.Test.YtinmfkbppgjcpaaCpy
set_option linter.unusedVariables false
namespace Go.Proofs.Ytinmfkbppgjcpaa.Lz
open Go.RowKit LzP

set_option maxHeartbeats 1000000 in
set_option maxRecDepth 100000 in
theorem walk4_bad (a : Option Addr) (n0 cap : Nat) (g : Nat → Int) (win : Int) (w : World) (h : Arg w a n0 cap g) (hn : n0 ≤ 400) (hb : win < 1 ∨ 32768 < win) :
    Calls Try.prog 4 #[.slice a n0 cap, .int .i64 win] w (IsTrue w) := by
  have H := Lib.hid h
  have H11 := Lib.hid fun (gb c : Nat) (w : World) => pieces_bad (some ⟨gb, 0, none⟩) n0 c win 4096 w (by unfold maxLen; omega) (by omega)
  clear h hb
  go_enter Try.func4, Try.ntmps4
  go_wp2_with (at_builtin; refine wpList_copy rfl _ _ rfl w.heap.size w.heap.size rfl (heap_alloc_new _ _) (Nat.le_refl _) a n0 cap g rfl ?t H.out.nil H.out.reach ?_)
  case t => exact H.out.txt.below ((Below.refl _ w).alloc (Nat.le_refl _) _)
  intro gb c w1 hown hb hc3 hc4
  have HB := Lib.hid (((Below.refl _ w).alloc (Nat.le_refl _) (.cells #[] 5)).trans hb)
  clear hown hb hc3 hc4
  go_wp2_with fail
  refine (H11.out gb c w1).mono ?_
  rintro e w2 ⟨rfl, rfl⟩
  go_wp2_with fail
  refine (num_any 1 _ (by omega) (by omega)).mono ?_
  rintro e w2 ⟨rfl, rfl⟩
  go_wp2_with fail
  refine (knows_any _).mono ?_
  rintro e w4 ⟨rfl, hb4⟩
  have HB4 := Lib.hid (HB.out.trans (hb4.mono HB.out.size))
  clear hb4
  go_wp2
  go_ret
  exact ⟨rfl, HB4.out⟩

theorem vint {a b : Int} (h : a = b) : Value.int .i64 a = .int .i64 b := by rw [h]

set_option maxHeartbeats 4000000 in
set_option maxRecDepth 100000 in
theorem walk4_ok (a : Option Addr) (n cap : Nat) (g : Nat → Int) (win : Nat) (w : World) (h : Arg w a n cap g) (hn : n ≤ 400) (hw1 : 1 ≤ win) (hw : win ≤ 32768) :
    Calls Try.prog 4 #[.slice a n cap, .int .i64 win] w (IsTrue w) := by
  have H := Lib.hid h
  have d400 : decide ((400 : Int) < (n : Int)) = false := by simp; omega
  clear h
  go_enter Try.func4, Try.ntmps4
  go_wp2_with (at_builtin; refine wpList_copy rfl _ _ rfl w.heap.size w.heap.size rfl (heap_alloc_new _ _) (Nat.le_refl _) a n cap g rfl ?t H.out.nil H.out.reach ?_)
  case t => exact H.out.txt.below ((Below.refl _ w).alloc (Nat.le_refl _) _)
  intro gb c w1 hown hb hc3 hc4
  have HB := Lib.hid (((Below.refl _ w).alloc (Nat.le_refl _) (.cells #[] 5)).trans hb)
  have HX := Lib.hid (own_txt hown)
  have HC := Lib.hid (And.intro hc3 hc4)
  clear hown hb hc3 hc4
  go_wp2_with fail
  refine (pieces_any (some ⟨gb, 0, none⟩) n c g win 4096 w1 HX.out (by omega) HC.out.1 HC.out.2 hw1 hw (by omega) H.out.byte).mono ?_
  rintro e w2 ⟨sv, rfl, hown, hb2⟩
  obtain ⟨a1, c1, rfl, hp1, hm⟩ := own_pcs hown
  have HP := Lib.hid hp1
  have HB2 := Lib.hid (HB.out.trans (hb2.mono HB.out.size))
  obtain ⟨N, hN⟩ : ∃ N, N = (pieces g n win 4096).length := ⟨_, rfl⟩
  rw [← hN] at hm ⊢
  have HN := Lib.hid hN
  unfold maxLen at hm
  clear hown hb2 hp1 HB HX HC hN
  go_wp2_with fail
  refine (num_any 0 _ (by omega) (by omega)).mono ?_
  rintro e w3 ⟨rfl, rfl⟩
  go_wp2_with fail
  refine (knows_any _).mono ?_
  rintro e w3 ⟨rfl, hb3⟩
  have HP3 := Lib.hid (HP.out.below hb3)
  have HB3 := Lib.hid (HB2.out.trans (hb3.mono HB2.out.size))
  have HT3 := Lib.hid (H.out.txt.below HB3.out)
  clear hb3 HP HB2
  go_wp2_with fail
  go_loopw [7, 8] (fun v i wr => ∃ k at' : Nat, k ≤ N ∧ at' ≤ n ∧ v = .int .i64 at' ∧ i = .int .i64 k ∧ Hid (Remn g n win k at') ∧ Below w3.heap.size w3 wr) (fun _ i _ => N - (intOf i).toNat)
  case atStart => exact ⟨0, 0, Nat.zero_le _, Nat.zero_le _, rfl, rfl, Lib.hid (rest_zero g n win), Below.refl _ _⟩
  case round =>
    obtain ⟨k, at', hk, hat, rfl, rfl, hrest, hbel⟩ := hrel
    have HBL := Lib.hid hbel
    by_cases hlt : k < N
    · obtain ⟨hatn, hget, hat2, hrest2⟩ := rest_step hrest.out hat (by rw [← HN.out]; exact hlt)
      obtain ⟨b, off, rfl, _, e0, e1, e2⟩ := (HP3.out.below hbel) k _ hget
      have hpm := pc_most g n win 4096 at' (by omega)
      have hpl := (pc_fits g n win 4096 at').1
      dsimp only at e0 e1 e2
      have ht3 := HT3.out.below hbel
      have HR2 := Lib.hid hrest2
      have HPM := Lib.hid hpm
      generalize (pc g n win 4096 at').1 = p1 at *
      have HE0 := Lib.hid e0
      clear hbel e0 e1 e2 hget hrest hrest2 hpm
      go_wp2_with fail
      obtain ⟨wo, rfl⟩ : ∃ wo : World, wo = wr := ⟨_, rfl⟩
      go_loopw [9, 10] (fun v i wl => ∃ d : Nat, 1 ≤ d ∧ d ≤ min win at' + 1 ∧ v = .int .i64 (most g n at' (d - 1)) ∧ i = .int .i64 d ∧ ∃ q, wl = wo.drewN q) (fun _ i _ => min win at' + 1 - (intOf i).toNat)
      case atStart => exact ⟨1, Nat.le_refl _, by omega, rfl, rfl, 0, rfl⟩
      case round =>
        obtain ⟨d, hd1, hd2, rfl, rfl, q, rfl⟩ := hrel
        have hexit : ¬ (d ≤ win ∧ d ≤ at') → Hid (p1 = if most g n at' (d - 1) < 3 then 0 else most g n at' (d - 1)) := fun hx => by
          have e : d - 1 = min win at' := by omega
          rw [e]; exact HPM.out
        have hend : ∀ M : Nat, M = most g n at' (d - 1) → ¬ (d ≤ win ∧ d ≤ at') → (M < 3 ∧ p1 = 0) ∨ (3 ≤ M ∧ p1 = M) := fun M hM hx => by
          have := (hexit hx).out
          rw [← hM] at this
          by_cases h3 : M < 3
          · rw [if_pos h3] at this; exact .inl ⟨h3, this⟩
          · rw [if_neg h3] at this; exact .inr ⟨by omega, this⟩
        clear hexit
        by_cases hin : d ≤ win ∧ d ≤ at'
        · have dw : decide ((d : Int) ≤ (win : Int)) = true := by simp; omega
          have da : decide ((d : Int) ≤ (at' : Int)) = true := by simp; omega
          obtain ⟨x0, hx0⟩ : ∃ x0, x0 = at' - d := ⟨_, rfl⟩
          have hal := al_le g n x0 at'
          have hst := most_step g n at' d hd1
          have hml := most_le g n at' (d - 1)
          rw [← hx0] at hst
          have hsub : IntKind.i64.wrap ((at' : Int) - d) = (x0 : Int) := by rw [IntKind.wrap_i64]; omega
          have hsub2 : (at' : Int) - d = (x0 : Int) := by omega
          have HST := Lib.hid hst
          have hx0le : x0 < at' := by omega
          have HX0 := Lib.hid hx0
          obtain ⟨ba, offa, rfl, hbl, hcc⟩ := ht3.pos (by omega)
          have HCC := Lib.hid hcc
          have HS2 := Lib.hid (And.intro hsub hsub2)
          clear hst hx0 hcc ht3 hend hsub hsub2
          generalize most g n at' (d - 1) = M at *
          go_wp2_with fail
          obtain ⟨wp, hwp⟩ : ∃ wp : World, wp = wo.drewN q := ⟨_, rfl⟩
          rw [← hwp]
          have HWP := Lib.hid hwp
          clear hwp
          go_loopw [11] (fun v wr => ∃ j q2 : Nat, v = .int .i64 j ∧ j ≤ 258 ∧ j ≤ n - at' ∧ Hid (∀ t, t < j → g (x0 + t) = g (at' + t)) ∧ wr = wp.drewN q2) (fun v _ => 258 - (intOf v).toNat)
          case atStart => exact ⟨0, 0, rfl, by omega, by omega, Lib.hid (fun t ht => by omega), rfl⟩
          case round =>
            obtain ⟨j, q2, rfl, hj, hjn, hg, rfl⟩ := hrel
            by_cases h1 : j < 258
            · have d1 : decide ((j : Int) < 258) = true := by simp; omega
              by_cases h2 : at' + j < n
              · obtain ⟨x, hx⟩ : ∃ x, x = x0 + j := ⟨_, rfl⟩
                obtain ⟨y, hy⟩ : ∃ y, y = at' + j := ⟨_, rfl⟩
                have c1 := HCC.out x (by have := HX0.out; omega)
                have c2 := HCC.out y (by omega)
                have hw0 := HS2.out.1
                have hw1 : IntKind.i64.wrap ((at' : Int) + j) = (y : Int) := by rw [IntKind.wrap_i64]; omega
                have hw2 : IntKind.i64.wrap ((x0 : Int) + j) = (x : Int) := by rw [IntKind.wrap_i64]; omega
                have hx1 : x < n := by have := HX0.out; omega
                have d2 : decide (y < n) = true := by simp; omega
                have hy1 : y < n := by omega
                have HXY := Lib.hid (And.intro hx hy)
                rw [← World.cell?_drewN wo q, ← HWP.out] at c1 c2
                by_cases h3 : g x = g y
                · have hgt : Hid (∀ t, t < j + 1 → g (x0 + t) = g (at' + t)) := fun t ht => by
                    by_cases e : t = j
                    · subst e; rw [← hx, ← hy]; exact h3
                    · exact hg.out t (by omega)
                  have e3 : (g y == g x) = true := by simp [h3]
                  clear hg h3 hx hy
                  go_wp2_with fail
                  go_quiet (fail)
                  go_wp2
                  go_roundw
                  case rel => exact ⟨j + 1, q2 + nq, by go_num, by omega, by have := HXY.out; omega, hgt, rfl⟩
                  case measure => simp [intOf]; omega
                · have hfin : al g n x0 at' = j := run_spec g (min 258 (n - at')) x0 at' j (by omega) hg.out (.inr (by rw [← hx, ← hy]; exact h3))
                  have e3 : (g y == g x) = false := by simp; exact fun e => h3 e.symm
                  have HST' : Hid (most g n at' d = max M j) := by rw [← hfin]; exact HST
                  clear hg h3 hx hy hfin
                  go_wp2_with fail
                  go_quiet (fail)
                  go_wp2_with fail
                  go_roundw
                  case rel => exact ⟨d + 1, by omega, by omega, vint (by rw [show d + 1 - 1 = d by omega, HST'.out]; omega), by go_num, q + (q2 + nq), by rw [HWP.out]; simp [World.drewN_drewN]⟩
                  case measure => simp [intOf]; omega
              · obtain ⟨y, hy⟩ : ∃ y, y = at' + j := ⟨_, rfl⟩
                have hw1 : IntKind.i64.wrap ((at' : Int) + j) = (y : Int) := by rw [IntKind.wrap_i64]; omega
                have d2 : decide (y < n) = false := by simp; omega
                have hfin : al g n x0 at' = j := run_spec g (min 258 (n - at')) x0 at' j (by omega) hg.out (.inl (by omega))
                have HST' : Hid (most g n at' d = max M j) := by rw [← hfin]; exact HST
                clear hg hfin hy h2
                go_wp2_with fail
                go_quiet (fail)
                go_wp2_with fail
                go_roundw
                case rel => exact ⟨d + 1, by omega, by omega, vint (by rw [show d + 1 - 1 = d by omega, HST'.out]; omega), by go_num, q + (q2 + nq), by rw [HWP.out]; simp [World.drewN_drewN]⟩
                case measure => simp [intOf]; omega
            · obtain rfl : j = 258 := by omega
              have hfin : al g n x0 at' = 258 := run_spec g (min 258 (n - at')) x0 at' 258 (by omega) hg.out (.inl (by omega))
              have HST' : Hid (most g n at' d = max M 258) := by rw [← hfin]; exact HST
              clear hg hfin
              go_wp2_with fail
              go_quiet (fail)
              go_wp2_with fail
              go_roundw
              case rel => exact ⟨d + 1, by omega, by omega, vint (by rw [show d + 1 - 1 = d by omega, HST'.out]; omega), by go_num, q + (q2 + nq), by rw [HWP.out]; simp [World.drewN_drewN]⟩
              case measure => simp [intOf]; omega
        · have hcases := hend _ rfl hin
          generalize most g n at' (d - 1) = M at *
          clear hend
          by_cases hdw : d ≤ win
          · have dw : decide ((d : Int) ≤ (win : Int)) = true := by simp; omega
            have da : decide ((d : Int) ≤ (at' : Int)) = false := by simp; omega
            rcases hcases with ⟨h3, rfl⟩ | ⟨h3, rfl⟩
            · have c3 := HE0.out
              have d3 : decide ((M : Int) < 3) = true := by simp; omega
              go_wp2
              go_roundw
              case rel => exact ⟨k + 1, _, by omega, hat2, vint (by omega), by go_num, HR2, belowN HBL.out⟩
              case measure => simp [intOf]; omega
            · have c3 := HE0.out
              have d3 : decide ((p1 : Int) < 3) = false := by simp; omega
              go_wp2
              go_roundw
              case rel => exact ⟨k + 1, _, by omega, hat2, vint (by omega), by go_num, HR2, belowN HBL.out⟩
              case measure => simp [intOf]; omega
          · have dw : decide ((d : Int) ≤ (win : Int)) = false := by simp; omega
            rcases hcases with ⟨h3, rfl⟩ | ⟨h3, rfl⟩
            · have c3 := HE0.out
              have d3 : decide ((M : Int) < 3) = true := by simp; omega
              go_wp2
              go_roundw
              case rel => exact ⟨k + 1, _, by omega, hat2, vint (by omega), by go_num, HR2, belowN HBL.out⟩
              case measure => simp [intOf]; omega
            · have c3 := HE0.out
              have d3 : decide ((p1 : Int) < 3) = false := by simp; omega
              go_wp2
              go_roundw
              case rel => exact ⟨k + 1, _, by omega, hat2, vint (by omega), by go_num, HR2, belowN HBL.out⟩
              case measure => simp [intOf]; omega
    · obtain rfl : k = N := by omega
      have hend := rest_end hrest.out hat (by rw [← HN.out]; exact Nat.le_refl _)
      have HB6 := Lib.hid (HB3.out.trans (hbel.mono HB3.out.size))
      obtain rfl : n = at' := hend.symm
      clear hbel hrest
      go_wp2
      go_ret
      exact ⟨rfl, HB6.out⟩
end Go.Proofs.Ytinmfkbppgjcpaa.Lz
