/- LzNone answers true where the text is not too long. -/
import Derived.Test.YtinmfkbppgjcpaaNoneP
import Derived.Test.YtinmfkbppgjcpaaW9
import Derived.Deep.OwnRows
set_option linter.unusedVariables false
namespace Go.Proofs.Ytinmfkbppgjcpaa.Lz
open Go.RowKit LzP

theorem none_ints (g : Nat → Int) (n k : Nat) (h : k < n) : (ints (pieces g n 32768 0))[k]? = some (0, 0, g k) := by
  simp [ints, pieces, ps_none g n 32768 n 0 (by omega), h]
theorem none_length (g : Nat → Int) (n : Nat) : (pieces g n 32768 0).length = n := by
  simp [pieces, ps_none g n 32768 n 0 (by omega)]

theorem run_pieces (c : Int) (n : Nat) : (((pieces (fun _ => c) n 32768 1).length : Int) ≤ 2 + (n : Int) / 258 + 2) ∧ ∀ t p, 0 < t → (ints (pieces (fun _ => c) n 32768 1))[t]? = some p → 0 < p.1 → p.2.1 = 1 := by
  by_cases h : n = 0
  · subst h; simp [pieces, ps, ints]
  · obtain ⟨f, rfl⟩ : ∃ f, n = f + 1 := ⟨n - 1, by omega⟩
    have hr := run_ps c (f + 1) 32768 (by omega) (by omega) f (by omega)
    refine ⟨?_, fun t p ht hp hl => ?_⟩
    · have := hr.1; unfold pieces; omega
    · simp only [ints, List.getElem?_map, Option.map_eq_some_iff] at hp
      obtain ⟨q, hq, rfl⟩ := hp
      have := hr.2 t q ht hq (by dsimp only at hl; omega)
      dsimp only; omega

set_option maxHeartbeats 2000000 in
set_option maxRecDepth 100000 in
theorem walk5_ok (a : Option Addr) (n cap : Nat) (g : Nat → Int) (c0 m : Int) (w : World) (h : Arg w a n cap g) (hn : n ≤ 1048576) (hc0 : 0 ≤ c0) (hc1 : c0 ≤ 255) :
    Calls Try.prog 5 #[.slice a n cap, .int .u8 c0, .int .i64 m] w (IsTrue w) := by
  have H := Lib.hid h
  obtain ⟨N, hN, hN2⟩ := mod_zero_in m 2000 (by omega) (by omega)
  clear h
  go_enter Try.func5, Try.ntmps5
  go_wp2_with (at_builtin; refine wpList_copy rfl _ _ rfl w.heap.size w.heap.size rfl (heap_alloc_new _ _) (Nat.le_refl _) a n cap g rfl ?t H.out.nil H.out.reach ?_)
  case t => exact H.out.txt.below ((Below.refl _ w).alloc (Nat.le_refl _) _)
  intro gb c w1 hown hb hc3 hc4
  have HB := Lib.hid (((Below.refl _ w).alloc (Nat.le_refl _) (.cells #[] 5)).trans hb)
  have HX := Lib.hid (own_txt hown)
  have HC := Lib.hid (And.intro hc3 hc4)
  clear hown hb hc3 hc4
  go_wp2_with fail
  refine (pieces_any (some ⟨gb, 0, none⟩) n c g 32768 0 w1 HX.out hn HC.out.1 HC.out.2 (by omega) (by omega) (by omega) H.out.byte).mono ?_
  rintro e w2 ⟨sv, rfl, hown, hb2⟩
  obtain ⟨a1, c1, rfl, hp1, hm⟩ := own_pcs hown
  rw [none_length]
  have HP := Lib.hid hp1
  have HB2 := Lib.hid (HB.out.trans (hb2.mono HB.out.size))
  clear hown hb2 hp1 HB HX HC
  go_wp2_with fail
  refine (num_any 0 _ (by omega) (by omega)).mono ?_
  rintro e w3 ⟨rfl, rfl⟩
  go_wp2_with fail
  go_loopw [9] (fun i wr => ∃ k : Nat, k ≤ n ∧ i = .int .i64 k ∧ Below w2.heap.size w2 wr) (fun i _ => n - (intOf i).toNat)
  case atStart => exact ⟨0, Nat.zero_le _, rfl, Below.refl _ _⟩
  case round =>
    obtain ⟨k, hk, rfl, hbel⟩ := hrel
    have HBL := Lib.hid hbel
    by_cases hlt : k < n
    · obtain ⟨b, off, rfl, _, e0, e1, e2⟩ := (HP.out.below hbel) k _ (none_ints g n k hlt)
      obtain ⟨b2, off2, rfl, _, cg⟩ := (H.out.txt.below (HB2.out.trans (hbel.mono HB2.out.size))) k hlt
      dsimp only at e0 e1 e2
      have hsz := hbel.size
      have e4 : (g k == g k) = true := by simp
      clear hbel
      go_wp2_with fail
      go_quiet (fail)
      go_wp2
      go_roundw
      case rel => exact ⟨k + 1, by omega, by go_num, ⟨HBL.out.os, HBL.out.tape, HBL.out.output, HBL.out.size, HBL.out.block⟩⟩
      case measure => simp [intOf]; omega
    · obtain rfl : k = n := by omega
      clear hbel
      go_wp2_with fail
      have hmk := run_make_row' (P := Try.prog) 22 5 (.int .u8 0) 1 Try.underlying22 (by kernel_rfl) rfl .i64 .i64 N (by omega) (by omega) wr
      go_wp2_with fail
      have hmk' : Sem.run Try.prog (Instr.makeSlice 22 (Value.int IntKind.i64 (N : Int)) (Value.int IntKind.i64 (N : Int))) wr = _ := hmk
      rw [hmk']
      clear hmk hmk'
      go_wp2_with fail
      rename World => wa
      have hb0 : Below w.heap.size w wa := HB2.out.trans (HBL.out.mono HB2.out.size)
      have hs0 := hb0.size
      have HB4 := Lib.hid hb0
      go_loopw [11] (fun v w' => ∃ j : Nat, j ≤ N ∧ v = .int .i64 j ∧ Below wa.heap.size wa w' ∧ w'.rowIs wa.heap.size 5 N (fun i => .int .u8 (if i < j then c0 else 0))) (fun v _ => N - (intOf v).toNat)
      case atStart => exact ⟨0, Nat.zero_le _, rfl, (Below.refl _ wa).alloc (Nat.le_refl _) _, (World.rowIs_made _ _ _ _).congr (by intro i hi; simp)⟩
      case round =>
        obtain ⟨j, hj, rfl, hbj, hrow⟩ := hrel
        by_cases hjn : j < N
        · have cj := hrow.cell hjn
          have fj := hrow.frozen j
          have HBJ := Lib.hid hbj
          have HRW := Lib.hid hrow
          clear hbj hrow
          go_wp2
          go_roundw
          case rel => exact ⟨j + 1, by omega, by go_num, HBJ.out.setCell (Nat.le_refl _) _, (HRW.out.set j _).congr (by intro i hi; by_cases e : i = j; (subst e; simp); (rw [if_neg e]; by_cases h : i < j; (rw [if_pos h, if_pos (by omega)]); (rw [if_neg h, if_neg (by omega)])))⟩
          case measure => simp [intOf]; omega
        · obtain rfl : j = N := by omega
          have htx : Txt wr (some ⟨wa.heap.size, 0, none⟩) j (fun _ => c0) := fun i hi => ⟨_, 0, rfl, hrow.lt, by have := hrow.cell hi; rw [if_pos hi] at this; simpa using this⟩
          have HTX := Lib.hid htx
          have HBJ := Lib.hid (HB4.out.trans (hbj.mono HB4.out.size))
          clear hbj hrow htx
          go_wp2_with fail
          refine (pieces_any (some ⟨wa.heap.size, 0, none⟩) j j (fun _ => c0) 32768 1 wr HTX.out (by omega) (Nat.le_refl _) (by unfold maxLen; omega) (by omega) (by omega) (by omega) (fun i hi => ⟨hc0, hc1⟩)).mono ?_
          rintro e w5 ⟨sv, rfl, hown, hb5⟩
          obtain ⟨a2, c2, rfl, hp2, hm2⟩ := own_pcs hown
          have HP2 := Lib.hid hp2
          have HB5 := Lib.hid (HBJ.out.trans (hb5.mono HBJ.out.size))
          clear hown hb5 hp2 HBJ HTX HP HB4 HBL
          go_wp2_with fail
          refine (num_any 0 _ (by omega) (by omega)).mono ?_
          rintro e w6 ⟨rfl, rfl⟩
          go_wp2_with fail
          have hil : (ints (pieces (fun _ => c0) j 32768 1)).length = (pieces (fun _ => c0) j 32768 1).length := by simp [ints]
          have hrun := run_pieces c0 j
          generalize (pieces (fun _ => c0) j 32768 1).length = M at *
          generalize ints (pieces (fun _ => c0) j 32768 1) = L at *
          have HIL := Lib.hid hil
          have HRUN := Lib.hid hrun
          clear hil hrun
          unfold maxLen at hm2
          go_loopw [14] (fun v wl => ∃ t : Nat, t ≤ M ∧ v = .int .i64 t ∧ Below w5.heap.size w5 wl) (fun v _ => M - (intOf v).toNat)
          case atStart => exact ⟨0, Nat.zero_le _, rfl, Below.refl _ _⟩
          case round =>
            obtain ⟨t, ht, rfl, hbel⟩ := hrel
            have HBL2 := Lib.hid hbel
            by_cases hlt2 : t < M
            · obtain ⟨p, hp⟩ : ∃ p, L[t]? = some p := ⟨L[t]'(by have := HIL.out; omega), List.getElem?_eq_getElem _⟩
              obtain ⟨b, off, rfl, _, e0, e1, e2⟩ := (HP2.out.below hbel) t p hp
              have hone := HRUN.out.2 t p
              obtain ⟨p1, p2, p3⟩ := p
              dsimp only at e0 e1 e2 hone
              by_cases hz : t = 0
              · subst hz
                clear hbel hone hp
                go_wp2
                go_roundw
                case rel => exact ⟨0 + 1, by omega, by go_num, HBL2.out⟩
                case measure => simp [intOf]; omega
              · have d0 : decide ((0 : Int) < (t : Int)) = true := by simp; omega
                by_cases hq : 0 < p1
                · obtain rfl := hone (by omega) hp hq
                  have d1 : decide ((0 : Int) < p1) = true := by simp; omega
                  clear hbel hone hp
                  go_wp2
                  go_roundw
                  case rel => exact ⟨t + 1, by omega, by go_num, HBL2.out⟩
                  case measure => simp [intOf]; omega
                · have d1 : decide ((0 : Int) < p1) = false := by simp; omega
                  clear hbel hone hp
                  go_wp2
                  go_roundw
                  case rel => exact ⟨t + 1, by omega, by go_num, HBL2.out⟩
                  case measure => simp [intOf]; omega
            · obtain rfl : t = M := by omega
              have HB6 := Lib.hid (HB5.out.trans (hbel.mono HB5.out.size))
              clear hbel
              have hfew := HRUN.out.1
              have htd : Int.tdiv (j : Int) 258 = (j : Int) / 258 := Int.tdiv_eq_ediv_of_nonneg (by omega)
              have dfew : decide ((t : Int) ≤ 2 + (j : Int) / 258 + 2) = true := by simp; omega
              by_cases h4 : j < 4
              · have d4 : decide ((j : Int) < 4) = true := by simp; omega
                clear hfew dfew
                go_wp2_with fail
                refine (knows_any _).mono ?_
                rintro e w8 ⟨rfl, hb8⟩
                have HB8 := Lib.hid (HB6.out.trans (hb8.mono HB6.out.size))
                clear hb8
                go_wp2
                go_ret
                exact ⟨rfl, HB8.out⟩
              · have d4 : decide ((j : Int) < 4) = false := by simp; omega
                clear hfew
                go_wp2_with fail
                refine (knows_any _).mono ?_
                rintro e w8 ⟨rfl, hb8⟩
                have HB8 := Lib.hid (HB6.out.trans (hb8.mono HB6.out.size))
                clear hb8
                go_wp2
                go_ret
                exact ⟨rfl, HB8.out⟩
end Go.Proofs.Ytinmfkbppgjcpaa.Lz
