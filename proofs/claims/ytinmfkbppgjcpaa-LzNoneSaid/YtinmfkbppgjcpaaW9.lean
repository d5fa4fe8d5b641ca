/- LzBack answers true. -/
import Derived.Test.YtinmfkbppgjcpaaCpy
import Derived.Test.YtinmfkbppgjcpaaExp
set_option linter.unusedVariables false
namespace Go.Proofs.Ytinmfkbppgjcpaa.Lz
open Go.RowKit LzP

set_option maxHeartbeats 1000000 in
set_option maxRecDepth 100000 in
theorem walk9_bad (a : Option Addr) (n cap : Nat) (g : Nat → Int) (win dep code : Int) (w : World) (h : Arg w a n cap g) (hc1 : 1 ≤ code) (hc2 : code ≤ 10)
    (h11 : ∀ gb c w, Calls Try.prog 11 #[.slice (some ⟨gb, 0, none⟩) n c, .int .i64 win, .int .i64 dep] w fun e w' => e = .returned (.tuple #[.slice none 0 0, .int .i64 code]) ∧ w = w') :
    Calls Try.prog 9 #[.slice a n cap, .int .i64 win, .int .i64 dep] w (IsTrue w) := by
  have H := Lib.hid h
  have H11 := Lib.hid h11
  have hne : (code == 0) = false := by simp; omega
  clear h h11
  go_enter Try.func9, Try.ntmps9
  go_wp2_with (at_builtin; refine wpList_copy rfl _ _ rfl w.heap.size w.heap.size rfl (heap_alloc_new _ _) (Nat.le_refl _) a n cap g rfl ?t H.out.nil H.out.reach ?_)
  case t => exact H.out.txt.below ((Below.refl _ w).alloc (Nat.le_refl _) _)
  intro gb c w1 hown hb hc3 hc4
  have HB := Lib.hid (((Below.refl _ w).alloc (Nat.le_refl _) (.cells #[] 5)).trans hb)
  clear hown hb hc3 hc4
  go_wp2_with fail
  refine (H11.out gb c w1).mono ?_
  rintro e w2 ⟨rfl, rfl⟩
  go_wp2_with fail
  refine (num_any code _ (by omega) (by omega)).mono ?_
  rintro e w2 ⟨rfl, rfl⟩
  go_wp2_with fail
  refine (knows_any _).mono ?_
  rintro e w4 ⟨rfl, hb4⟩
  have HB4 := Lib.hid (HB.out.trans (hb4.mono HB.out.size))
  clear hb4
  go_wp2
  go_ret
  exact ⟨rfl, HB4.out⟩

set_option maxHeartbeats 2000000 in
set_option maxRecDepth 100000 in
theorem walk9_ok (a : Option Addr) (n cap : Nat) (g : Nat → Int) (win dep : Nat) (w : World) (h : Arg w a n cap g) (hn : n ≤ 1048576) (hw1 : 1 ≤ win) (hw : win ≤ 32768) (hd : dep ≤ 4096) :
    Calls Try.prog 9 #[.slice a n cap, .int .i64 win, .int .i64 dep] w (IsTrue w) := by
  have H := Lib.hid h
  clear h
  go_enter Try.func9, Try.ntmps9
  go_wp2_with (at_builtin; refine wpList_copy rfl _ _ rfl w.heap.size w.heap.size rfl (heap_alloc_new _ _) (Nat.le_refl _) a n cap g rfl ?t H.out.nil H.out.reach ?_)
  case t => exact H.out.txt.below ((Below.refl _ w).alloc (Nat.le_refl _) _)
  intro gb c w1 hown hb hc3 hc4
  have HB := Lib.hid (((Below.refl _ w).alloc (Nat.le_refl _) (.cells #[] 5)).trans hb)
  have HX := Lib.hid (own_txt hown)
  have HC := Lib.hid (And.intro hc3 hc4)
  clear hown hb hc3 hc4
  go_wp2_with fail
  refine (pieces_any (some ⟨gb, 0, none⟩) n c g win dep w1 HX.out hn HC.out.1 HC.out.2 hw1 hw hd H.out.byte).mono ?_
  rintro e w2 ⟨sv, rfl, hown, hb2⟩
  obtain ⟨a1, c1, rfl, hp1, hm⟩ := own_pcs hown
  have HP := Lib.hid hp1
  have HB2 := Lib.hid (HB.out.trans (hb2.mono HB.out.size))
  have hil : (ints (pieces g n win dep)).length = (pieces g n win dep).length := by simp [ints]
  have hfit : ∀ p ∈ ints (pieces g n win dep), (p.1 = 0 ∧ p.2.1 = 0) ∨ (3 ≤ p.1 ∧ p.1 ≤ 258 ∧ 1 ≤ p.2.1 ∧ p.2.1 ≤ win ∧ p.2.2 = 0) := by
    intro p hp
    simp only [ints, List.mem_map] at hp
    obtain ⟨q, hq, rfl⟩ := hp
    have := ps_fits g n win dep n 0 q hq
    dsimp only
    omega
  have hex := ex_pieces g n win dep hw
  generalize (pieces g n win dep).length = N at *
  generalize ints (pieces g n win dep) = L at *
  have HIL := Lib.hid hil
  have HFT := Lib.hid hfit
  have HEX := Lib.hid hex
  have hml := hm
  unfold maxLen at hm
  have HML := Lib.hid hml
  clear hown hb2 hp1 hil hfit hex HB HX HC hml
  go_wp2_with fail
  refine (num_any 0 _ (by omega) (by omega)).mono ?_
  rintro e w3 ⟨rfl, rfl⟩
  go_wp2_with fail
  refine (knows_any _).mono ?_
  rintro e w3 ⟨rfl, hb3⟩
  have HP3 := Lib.hid (HP.out.below hb3)
  have HB3 := Lib.hid (HB2.out.trans (hb3.mono HB2.out.size))
  clear hb3 HP HB2
  go_wp2_with fail
  go_loopw [9] (fun i wr => ∃ k : Nat, k ≤ N ∧ i = .int .i64 k ∧ Below w3.heap.size w3 wr) (fun i _ => N - (intOf i).toNat)
  case atStart => exact ⟨0, Nat.zero_le _, rfl, Below.refl _ _⟩
  case round =>
    obtain ⟨k, hk, rfl, hbel⟩ := hrel
    have HBL := Lib.hid hbel
    by_cases hlt : k < N
    · obtain ⟨p, hp⟩ : ∃ p, L[k]? = some p := ⟨L[k]'(by have := HIL.out; omega), List.getElem?_eq_getElem _⟩
      obtain ⟨b, off, rfl, _, c0, c1, c2⟩ := (HP3.out.below hbel) k p hp
      have hf := HFT.out p (List.mem_of_getElem? hp)
      obtain ⟨p1, p2, p3⟩ := p
      dsimp only at c0 c1 c2 hf
      have hsz := hbel.size
      clear hp hbel
      rcases hf with ⟨rfl, rfl⟩ | ⟨f1, f2, f3, f4, rfl⟩
      · go_wp2
        go_roundw
        case rel => exact ⟨k + 1, by omega, by go_num, HBL.out.alloc hsz _⟩
        case measure => simp [intOf]; omega
      · have e1 : (p1 == 0) = false := by simp; omega
        go_wp2
        go_roundw
        case rel => exact ⟨k + 1, by omega, by go_num, HBL.out.alloc hsz _⟩
        case measure => simp [intOf]; omega
    · obtain rfl : k = N := by omega
      clear hbel
      go_wp2_with fail
      refine (expand_any a1 k c1 L n wr (HP3.out.below HBL.out) HIL.out HML.out hn).mono ?_
      rintro e w5 ⟨sv, rfl, hown, hb5⟩
      rw [HEX.out] at hown
      dsimp only at hown
      rw [HEX.out]
      have HB5 := Lib.hid (HB3.out.trans ((HBL.out.trans (hb5.mono HBL.out.size)).mono HB3.out.size))
      rw [txt_length] at hown
      have htx : ∃ ga cc, sv = .slice ga n cc ∧ Txt w5 ga n g := by
        rcases hown.2 with ⟨rfl, h0⟩ | ⟨gq, cq, cur, rfl, _⟩
        · subst h0; exact ⟨none, 0, rfl, fun i hi => by omega⟩
        · exact ⟨_, cq, rfl, own_txt hown⟩
      obtain ⟨ga, cc, rfl, htx⟩ := htx
      have s1 := conv_txt htx cc 0
      have s2 := conv_txt (H.out.txt.below HB5.out) cap 0
      generalize strOfNums (txt g n) = S at s1 s2
      have s1' : (convert 22 9 (.slice ga n cc)).run Try.prog w5 = .ok (.string S) w5 := s1
      have s2' : (convert 22 9 (.slice a n cap)).run Try.prog w5 = .ok (.string S) w5 := s2
      clear hown hb5 htx s1 s2
      go_wp2_with fail
      refine (num_any 0 _ (by omega) (by omega)).mono ?_
      rintro e w6 ⟨rfl, rfl⟩
      go_wp2
      go_ret
      exact ⟨rfl, HB5.out⟩

theorem walk9 (a : Option Addr) (n cap : Nat) (g : Nat → Int) (win dep : Int) (w : World) (h : Arg w a n cap g) :
    Calls Try.prog 9 #[.slice a n cap, .int .i64 win, .int .i64 dep] w (IsTrue w) := by
  have hml : n ≤ maxLen := by have := h.reach; unfold maxLen; omega
  by_cases hb : win < 1 ∨ 32768 < win ∨ dep < 0 ∨ 4096 < dep
  · exact walk9_bad a n cap g win dep 1 w h (by omega) (by omega) (fun gb c w => pieces_bad _ n c win dep w hml hb)
  · by_cases hn : n ≤ 1048576
    · obtain ⟨win', rfl⟩ : ∃ m : Nat, win = m := ⟨win.toNat, by omega⟩
      obtain ⟨dep', rfl⟩ : ∃ m : Nat, dep = m := ⟨dep.toNat, by omega⟩
      exact walk9_ok a n cap g win' dep' w h hn (by omega) (by omega) (by omega)
    · exact walk9_bad a n cap g win dep 6 w h (by omega) (by omega) (fun gb c w => pieces_long _ n c win dep w hml (by omega) (by omega) (by omega) (by omega) (by omega))
end Go.Proofs.Ytinmfkbppgjcpaa.Lz
