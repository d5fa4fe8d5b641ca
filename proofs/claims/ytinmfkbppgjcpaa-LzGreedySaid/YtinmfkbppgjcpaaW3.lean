/- LzPieces answers true. -/
import Derived.Test.YtinmfkbppgjcpaaKnw
import Derived.Test.YtinmfkbppgjcpaaRow
set_option linter.unusedVariables false
namespace Go.Proofs.Ytinmfkbppgjcpaa.Lz
open Go.RowKit LzP

theorem rowc_get (l : List (Nat × Nat × Int)) (i : Nat) (p : Nat × Nat × Int) (h : l[i]? = some p) : (rowc l)[i * 3]? = some (.int .i64 p.1) ∧ (rowc l)[i * 3 + 1]? = some (.int .i64 p.2.1) ∧ (rowc l)[i * 3 + 2]? = some (.int .u8 p.2.2) := by
  induction l generalizing i with
  | nil => simp at h
  | cons x l ih =>
    cases i with
    | zero => simp at h; subst h; exact ⟨rfl, rfl, rfl⟩
    | succ i =>
      obtain ⟨h1, h2, h3⟩ := ih i (by simpa using h)
      have e : rowc (x :: l) = [.int .i64 x.1, .int .i64 x.2.1, .int .u8 x.2.2] ++ rowc l := by simp [rowc]
      rw [e]
      refine ⟨?_, ?_, ?_⟩
      · rw [List.getElem?_append_right (by simp; omega)]; simpa [show (i + 1) * 3 - 3 = i * 3 by omega] using h1
      · rw [List.getElem?_append_right (by simp; omega)]; simpa [show (i + 1) * 3 + 1 - 3 = i * 3 + 1 by omega] using h2
      · rw [List.getElem?_append_right (by simp; omega)]; simpa [show (i + 1) * 3 + 2 - 3 = i * 3 + 2 by omega] using h3

theorem own_pcs {w : World} {base : Nat} {T : TypeId} {sv : Value} {L : List (Nat × Nat × Int)} (h : w.ownsRow base T 3 sv L.length (rowc L)) : ∃ a c, sv = .slice a L.length c ∧ PcsAt w a (ints L) ∧ L.length ≤ maxLen := by
  rcases h.2 with ⟨rfl, h0⟩ | ⟨gb, c, cur, rfl, _, hg, hc, hm, _⟩
  · have : L = [] := List.length_eq_zero_iff.1 h0
    subst this
    exact ⟨none, 0, rfl, fun i p hp => by simp [ints] at hp, by simp⟩
  · refine ⟨_, c, rfl, fun i p hp => ?_, Nat.le_trans hc hm⟩
    obtain ⟨q, hq, rfl⟩ : ∃ q, L[i]? = some q ∧ ((q.1 : Int), (q.2.1 : Int), q.2.2) = p := by
      simp only [ints, List.getElem?_map, Option.map_eq_some_iff] at hp; exact hp
    obtain ⟨h1, h2, h3⟩ := rowc_get L i q hq
    refine ⟨gb, 0, rfl, (Array.getElem?_eq_some_iff.1 hg).1, ?_, ?_, ?_⟩
    · rw [Nat.zero_add]; exact own_cell h h1
    · rw [Nat.zero_add]; exact own_cell h h2
    · rw [Nat.zero_add]; exact own_cell h h3

theorem pcs_nil (w : World) (a : Option Addr) : PcsAt w a [] := fun i p hp => by simp at hp

/-- what a call needs of the text that it is lent -/
structure Arg (w : World) (a : Option Addr) (n cap : Nat) (g : Nat → Int) : Prop where
  txt : Txt w a n g
  nil : a = none → n = 0 ∧ cap = 0
  reach : n ≤ 140737488351232
  fits : n ≤ cap
  fits2 : cap ≤ maxLen
  byte : ∀ i, i < n → 0 ≤ g i ∧ g i ≤ 255

theorem wf8_inv {x : Int} (h : (Lit.int .u8 x).wf = true) : 0 ≤ x ∧ x ≤ 255 := by
  have h1 : IntKind.u8.min = 0 := rfl
  have h2 : IntKind.u8.max = 255 := rfl
  simp [Lit.wf, h1, h2] at h
  exact h

def IsTrue (w : World) (e : Ending) (w' : World) : Prop := e = .returned (.bool true) ∧ Below w.heap.size w w'

set_option maxHeartbeats 1000000 in
set_option maxRecDepth 100000 in
theorem walk3_bad (a : Option Addr) (n cap : Nat) (g : Nat → Int) (win dep code : Int) (w : World) (h : Arg w a n cap g) (hc1 : 0 ≤ code) (hc2 : code ≤ 10)
    (h11 : ∀ gb c w, Calls Try.prog 11 #[.slice (some ⟨gb, 0, none⟩) n c, .int .i64 win, .int .i64 dep] w fun e w' => e = .returned (.tuple #[.slice none 0 0, .int .i64 code]) ∧ w = w')
    (h12 : ∀ w, Calls Try.prog 12 #[.slice a n cap, .int .i64 win, .int .i64 dep] w fun e w' => e = .returned (.tuple #[.slice none 0 0, .int .i64 code]) ∧ w = w') :
    Calls Try.prog 3 #[.slice a n cap, .int .i64 win, .int .i64 dep] w (IsTrue w) := by
  have H := Lib.hid h
  have H11 := Lib.hid h11
  have H12 := Lib.hid h12
  clear h h11 h12
  go_enter Try.func3, Try.ntmps3
  go_wp2_with fail
  refine (lent_any a n cap g w H.out.txt H.out.nil H.out.reach).mono ?_
  rintro e w1 ⟨gb, c, rfl, hl, hb⟩
  have HL := Lib.hid hl
  have HB := Lib.hid hb
  clear hl hb
  go_wp2_with fail
  refine (H11.out gb c w1).mono ?_
  rintro e w2 ⟨rfl, rfl⟩
  go_wp2_with fail
  refine (H12.out w1).mono ?_
  rintro e w2 ⟨rfl, rfl⟩
  go_wp2_with fail
  refine (same_true none none 0 0 0 [] w1 (pcs_nil _ _) (pcs_nil _ _) rfl (by simp)).mono ?_
  rintro e w2 ⟨rfl, q, rfl⟩
  go_wp2_with fail
  refine (num_any code _ (by omega) (by omega)).mono ?_
  rintro e w2 ⟨rfl, rfl⟩
  go_wp2_with fail
  have HL2 : Hid (LentAt (w1.drewN q) w.heap.size gb c n g) := HL.out.kept (row := none) ⟨rfl, rfl, rfl, Nat.le_refl _, fun _ _ _ => rfl⟩ (by simp [Value.ownBlock])
  have HB2 : Hid (Below w.heap.size w (w1.drewN q)) := belowN HB.out
  clear HL HB
  refine (stays_true a n cap gb c _ g _ (H.out.txt.below HB2.out) HL2.out H.out.reach).mono ?_
  rintro e w3 ⟨rfl, q3, rfl⟩
  have HB3 : Hid (Below w.heap.size w ((w1.drewN q).drewN q3)) := belowN HB2.out
  generalize (w1.drewN q).drewN q3 = w3 at HB3 ⊢
  go_wp2_with fail
  refine (knows_any _).mono ?_
  rintro e w4 ⟨rfl, hb4⟩
  have HB4 := Lib.hid (HB3.out.trans (hb4.mono HB3.out.size))
  clear hb4
  go_wp2
  go_ret
  exact ⟨rfl, HB4.out⟩

set_option maxHeartbeats 1000000 in
set_option maxRecDepth 100000 in
theorem walk3_ok (a : Option Addr) (n cap : Nat) (g : Nat → Int) (win dep : Nat) (w : World) (h : Arg w a n cap g) (hn : n ≤ 1048576) (hw1 : 1 ≤ win) (hw : win ≤ 32768) (hd : dep ≤ 4096) :
    Calls Try.prog 3 #[.slice a n cap, .int .i64 win, .int .i64 dep] w (IsTrue w) := by
  have H := Lib.hid h
  clear h
  go_enter Try.func3, Try.ntmps3
  go_wp2_with fail
  refine (lent_any a n cap g w H.out.txt H.out.nil H.out.reach).mono ?_
  rintro e w1 ⟨gb, c, rfl, hl, hb⟩
  obtain ⟨_, _, e0, hc1, hc2, -, -⟩ := own_some hl (by omega)
  cases e0
  have HC := Lib.hid (And.intro hc1 hc2)
  have HL := Lib.hid hl
  have HB := Lib.hid hb
  clear hl hb hc1 hc2
  go_wp2_with fail
  refine (pieces_any (some ⟨gb, 0, none⟩) n c g win dep w1 HL.out.txt hn (by have := HC.out.1; omega) HC.out.2 hw1 hw hd H.out.byte).mono ?_
  rintro e w2 ⟨sv, rfl, hown, hb2⟩
  have HL2 := Lib.hid (row_below HL.out hb2)
  have HB2 := Lib.hid (HB.out.trans (hb2.mono HB.out.size))
  have HO := Lib.hid hown
  clear hown hb2 HL HB
  go_wp2_with fail
  refine (ref_pieces a n cap g win dep w2 (H.out.txt.below HB2.out) hn hw1 hw hd).mono ?_
  rintro e w3 ⟨sv', rfl, hown', hb3⟩
  have HL3 := Lib.hid (row_below HL2.out hb3)
  have HB3 := Lib.hid (HB2.out.trans (hb3.mono HB2.out.size))
  obtain ⟨a1, c1, rfl, hp1, hm⟩ := own_pcs (row_below HO.out hb3)
  obtain ⟨a2, c2, rfl, hp2, _⟩ := own_pcs hown'
  have HP := Lib.hid (And.intro hp1 hp2)
  have hil : (ints (pieces g n win dep)).length = (pieces g n win dep).length := by simp [ints]
  generalize (pieces g n win dep).length = N at *
  have HIL := Lib.hid hil
  have HM := Lib.hid hm
  clear hown' hb3 hp1 hp2 HL2 HB2 HO hil hm
  go_wp2_with fail
  refine (same_true a1 a2 N c1 c2 (ints (pieces g n win dep)) w3 HP.out.1 HP.out.2 HIL.out HM.out).mono ?_
  rintro e w4 ⟨rfl, q, rfl⟩
  go_wp2_with fail
  refine (num_any 0 _ (by omega) (by omega)).mono ?_
  rintro e w5 ⟨rfl, rfl⟩
  go_wp2_with fail
  have HL4 : Hid (LentAt (w3.drewN q) w.heap.size gb c n g) := HL3.out.kept (row := none) ⟨rfl, rfl, rfl, Nat.le_refl _, fun _ _ _ => rfl⟩ (by simp [Value.ownBlock])
  have HB4 : Hid (Below w.heap.size w (w3.drewN q)) := belowN HB3.out
  clear HL3 HB3
  refine (stays_true a n cap gb c _ g _ (H.out.txt.below HB4.out) HL4.out H.out.reach).mono ?_
  rintro e w5 ⟨rfl, q3, rfl⟩
  have HB5 : Hid (Below w.heap.size w ((w3.drewN q).drewN q3)) := belowN HB4.out
  generalize (w3.drewN q).drewN q3 = w5 at HB5 ⊢
  go_wp2_with fail
  refine (knows_any _).mono ?_
  rintro e w6 ⟨rfl, hb6⟩
  have HB6 := Lib.hid (HB5.out.trans (hb6.mono HB5.out.size))
  clear hb6
  go_wp2
  go_ret
  exact ⟨rfl, HB6.out⟩

theorem walk3 (a : Option Addr) (n cap : Nat) (g : Nat → Int) (win dep : Int) (w : World) (h : Arg w a n cap g) :
    Calls Try.prog 3 #[.slice a n cap, .int .i64 win, .int .i64 dep] w (IsTrue w) := by
  have hml : n ≤ maxLen := by have := h.reach; unfold maxLen; omega
  by_cases hb : win < 1 ∨ 32768 < win ∨ dep < 0 ∨ 4096 < dep
  · exact walk3_bad a n cap g win dep 1 w h (by omega) (by omega) (fun gb c w => pieces_bad _ n c win dep w hml hb) (fun w => ref_pieces_bad a n cap win dep w hml hb)
  · by_cases hn : n ≤ 1048576
    · obtain ⟨win', rfl⟩ : ∃ m : Nat, win = m := ⟨win.toNat, by omega⟩
      obtain ⟨dep', rfl⟩ : ∃ m : Nat, dep = m := ⟨dep.toNat, by omega⟩
      exact walk3_ok a n cap g win' dep' w h hn (by omega) (by omega) (by omega)
    · exact walk3_bad a n cap g win dep 6 w h (by omega) (by omega) (fun gb c w => pieces_long _ n c win dep w hml (by omega) (by omega) (by omega) (by omega) (by omega)) (fun w => ref_pieces_long a n cap win dep w hml (by omega) (by omega) (by omega) (by omega) (by omega))
end Go.Proofs.Ytinmfkbppgjcpaa.Lz
