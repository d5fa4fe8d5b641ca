/- LimitsAllows: the walk. (Printed by wip/tools/gen_allows.py.) -/
import Derived.Test.YtmdallmbmjcdfaaRefh
import Derived.Test.YtmdallmbmjcdfaaRefi
import Derived.Test.YtmdallmbmjcdfaaAsk
set_option linter.unusedVariables false
namespace Go.Proofs.Ytmdallmbmjcdfaa.Rf
open Go.RowKit Go.Proofs.Ytmdallmbmjcdfaa.Lm

def nxt (s : LS) (k : ByteArray) (t : Int) (l : Bool) : LS := if l then s else allow s k t

theorem step_any (b c : Nat) (s : LS) (k : ByteArray) (t : Int) (l : Bool) : Does 14 #[.pointer (some ⟨b, 0, none⟩), .pointer (some ⟨c, 0, none⟩), .agg #[.string k, .int .i64 t, .bool l]] (Star (LimR b s) (RefR c s)) (Star (LimR b (nxt s k t l)) (RefR c (nxt s k t l))) (.bool true) := by
  cases l
  · exact step_allow b c s k t
  · exact step_look b c s k t

abbrev Pair (b c : Nat) (s : LS) : Res := Star (LimR b s) (RefR c s)
theorem Pair.good (b c : Nat) (s : LS) : Good (Pair b c s) := (LimR.good b s).star (RefR.good c s)

theorem held_imp {w0 w : World} {R R' : Res} (hi : ∀ w F, R w F → R' w F) (h : Held w0 R w) : Held w0 R' w := by
  obtain ⟨hb, F, g, hF⟩ := h
  exact ⟨hb, F, hi _ _ g, hF⟩

theorem star_swap (A B C D : Res) (w : World) (F : Nat → Prop) (h : Star (Star (Star A B) C) D w F) : Star (Star A C) (Star B D) w F := by
  obtain ⟨F1, FD, ⟨F2, FC, ⟨FA, FB, ha, hb, d1, e1⟩, hc, d2, e2⟩, hd, d3, e3⟩ := h
  refine ⟨fun k => FA k ∨ FC k, fun k => FB k ∨ FD k, ⟨FA, FC, ha, hc, fun k q1 q2 => d2 k ((e1 k).2 (.inl q1)) q2, fun k => Iff.rfl⟩, ⟨FB, FD, hb, hd, fun k q1 q2 => d3 k ((e2 k).2 (.inl ((e1 k).2 (.inr q1)))) q2, fun k => Iff.rfl⟩, ?_, ?_⟩
  · rintro k (q1 | q1) (q2 | q2)
    · exact d1 k q1 q2
    · exact d3 k ((e2 k).2 (.inl ((e1 k).2 (.inl q1)))) q2
    · exact d2 k ((e1 k).2 (.inr q2)) q1
    · exact d3 k ((e2 k).2 (.inr q1)) q2
  · intro k
    rw [e3 k, e2 k, e1 k]
    constructor
    · rintro (((q | q) | q) | q)
      · exact .inl (.inl q)
      · exact .inr (.inl q)
      · exact .inl (.inr q)
      · exact .inr (.inr q)
    · rintro ((q | q) | (q | q))
      · exact .inl (.inl (.inl q))
      · exact .inl (.inr q)
      · exact .inl (.inl (.inr q))
      · exact .inr q

def Rel_both (w wr : World) (b1 c1 b2 c2 : Nat) (l3 l4 : Nat) (i : Value) : Prop := ∃ k : Nat, i = .int .i64 k ∧ k ≤ max l3 l4 ∧ ∃ s1 s2 : LS, Held w (Star (Pair b1 c1 s1) (Pair b2 c2 s2)) wr

set_option maxHeartbeats 8000000 in
set_option maxRecDepth 100000 in
theorem walk_both (a0 a1 a2 : Int) (hA : okArgs a0 a1 a2) (hB : okArgs 1 a1 a2) (x3 : Option Addr) (l3 c3 : Nat) (K3 : Nat → ByteArray) (T3 : Nat → Int) (L3 : Nat → Bool) (x4 : Option Addr) (l4 c4 : Nat) (K4 : Nat → ByteArray) (T4 : Nat → Int) (L4 : Nat → Bool) (w : World) (hl3 : l3 ≤ maxLen) (hr3 : AsksAt w x3 l3 K3 T3 L3) (hl4 : l4 ≤ maxLen) (hr4 : AsksAt w x4 l4 K4 T4 L4) :
    Calls Try.prog 5 #[.int .i64 a0, .int .i64 a1, .int .i64 a2, .slice x3 l3 c3, .slice x4 l4 c4] w fun e w' => e = .returned (.bool true) ∧ Below w.heap.size w w' := by
  have HR3 := Lib.hid hr3
  have HR4 := Lib.hid hr4
  have HA := Lib.hid hA
  have HB := Lib.hid hB
  have hm3 : l3 ≤ 9223372036854775807 := by unfold maxLen at hl3; omega
  have hm4 : l4 ≤ 9223372036854775807 := by unfold maxLen at hl4; omega
  clear hr3 hr4 hA hB hl3 hl4
  go_enter Try.func5, Try.ntmps5
  go_wp2_with fail
  refine (new_res w a0 a1 a2 HA.out).mono ?_
  rintro e u1 ⟨rfl, hb, F, hR, hF⟩
  have hh := Held.first (w0 := w) (Below.refl _ _) hb hR hF
  have H1 := Lib.hid hh
  clear hh hb hR hF
  go_wp2_with fail
  refine (new_res u1 1 a1 a2 HB.out).mono ?_
  rintro e u2 ⟨rfl, hb, F, hR, hF⟩
  have hh := H1.out.add (LimR.good _ _) hb hR hF
  have H2 := Lib.hid hh
  clear hh hb hR hF H1
  go_wp2_with fail
  refine (rnew_res u2 a0 a1 a2 HA.out).mono ?_
  rintro e u3 ⟨rfl, hb, F, hR, hF⟩
  have hh := H2.out.add ((LimR.good _ _).star (LimR.good _ _)) hb hR hF
  have H3 := Lib.hid hh
  clear hh hb hR hF H2
  go_wp2_with fail
  refine (rnew_res u3 1 a1 a2 HB.out).mono ?_
  rintro e u4 ⟨rfl, hb, F, hR, hF⟩
  have hh := H3.out.add (((LimR.good _ _).star (LimR.good _ _)).star (RefR.good _ _)) hb hR hF
  have H4 := Lib.hid hh
  clear hh hb hR hF H3
  go_wp2_with (first | (go_at_call 9; refine (num_any 0 _ (by omega) (by omega)).mono ?_; rintro e w' ⟨rfl, rfl⟩) | (go_at_call 10; refine (knows_any _).mono ?_; rintro e u5 ⟨rfl, hb'⟩; have HB' := Lib.hid hb'; clear hb'))
  have hh := H4.out.below ((((LimR.good _ _).star (LimR.good _ _)).star (RefR.good _ _)).star (RefR.good _ _)) HB'.out
  have hh := held_imp (star_swap _ _ _ _) hh
  have HH := Lib.hid hh
  clear hh HB' H4
  generalize w.heap.size + 1 = b1 at HH ⊢
  generalize u2.heap.size = c1 at HH ⊢
  generalize u1.heap.size + 1 = b2 at HH ⊢
  generalize u3.heap.size = c2 at HH ⊢
  go_loopw [17] (fun i wr => Rel_both w wr b1 c1 b2 c2 l3 l4 i) (fun i _ => max l3 l4 - (intOf i).toNat)
  case atStart => exact ⟨0, rfl, by omega, _, _, HH.out⟩
  case round =>
    obtain ⟨k, rfl, hk, s1, s2, hh⟩ := hrel
    clear HH
    have HH := Lib.hid hh
    clear hh
    by_cases h3 : k < l3
    · by_cases h4 : k < l4
      · have hk1 : (k : Int) + 1 ≤ 9223372036854775807 := by omega
        obtain ⟨g3, o3, rfl, hb3, kc, tc, lc⟩ := HR3.out k h3
        have kw3 := (HH.out.1.cell (p := ⟨g3, o3 + k * 3, none⟩) hb3).trans kc
        have tw3 := (HH.out.1.cell (p := ⟨g3, o3 + k * 3 + 1, none⟩) hb3).trans tc
        have lw3 := (HH.out.1.cell (p := ⟨g3, o3 + k * 3 + 2, none⟩) hb3).trans lc
        clear kc tc lc
        generalize K3 k = key3 at kw3
        generalize T3 k = tm3 at tw3
        generalize L3 k = fl3 at lw3
        go_wp2_with fail
        refine (HH.out.calls ((step_any b1 c1 s1 key3 tm3 fl3).left (Pair.good b2 c2 s2))).mono ?_
        rintro e u ⟨rfl, hh⟩
        have HU := Lib.hid hh
        clear hh HH kw3 tw3 lw3
        obtain ⟨g4, o4, rfl, hb4, kc, tc, lc⟩ := HR4.out k h4
        have kw4 := (HU.out.1.cell (p := ⟨g4, o4 + k * 3, none⟩) hb4).trans kc
        have tw4 := (HU.out.1.cell (p := ⟨g4, o4 + k * 3 + 1, none⟩) hb4).trans tc
        have lw4 := (HU.out.1.cell (p := ⟨g4, o4 + k * 3 + 2, none⟩) hb4).trans lc
        clear kc tc lc
        generalize K4 k = key4 at kw4
        generalize T4 k = tm4 at tw4
        generalize L4 k = fl4 at lw4
        go_wp2_with fail
        refine (HU.out.calls ((step_any b2 c2 s2 key4 tm4 fl4).right (Pair.good b1 c1 _))).mono ?_
        rintro e v ⟨rfl, hh⟩
        have HV := Lib.hid hh
        clear hh HU kw4 tw4 lw4
        go_wp2
        go_roundw
        case rel => exact ⟨k + 1, by go_num, by omega, _, _, HV.out⟩
        case measure => simp [intOf]; omega
      · have hk1 : (k : Int) + 1 ≤ 9223372036854775807 := by omega
        obtain ⟨g3, o3, rfl, hb3, kc, tc, lc⟩ := HR3.out k h3
        have kw3 := (HH.out.1.cell (p := ⟨g3, o3 + k * 3, none⟩) hb3).trans kc
        have tw3 := (HH.out.1.cell (p := ⟨g3, o3 + k * 3 + 1, none⟩) hb3).trans tc
        have lw3 := (HH.out.1.cell (p := ⟨g3, o3 + k * 3 + 2, none⟩) hb3).trans lc
        clear kc tc lc
        generalize K3 k = key3 at kw3
        generalize T3 k = tm3 at tw3
        generalize L3 k = fl3 at lw3
        go_wp2_with fail
        refine (HH.out.calls ((step_any b1 c1 s1 key3 tm3 fl3).left (Pair.good b2 c2 s2))).mono ?_
        rintro e u ⟨rfl, hh⟩
        have HU := Lib.hid hh
        clear hh HH kw3 tw3 lw3
        go_wp2
        go_roundw
        case rel => exact ⟨k + 1, by go_num, by omega, _, _, HU.out⟩
        case measure => simp [intOf]; omega
    · by_cases h4 : k < l4
      · have hk1 : (k : Int) + 1 ≤ 9223372036854775807 := by omega
        obtain ⟨g4, o4, rfl, hb4, kc, tc, lc⟩ := HR4.out k h4
        have kw4 := (HH.out.1.cell (p := ⟨g4, o4 + k * 3, none⟩) hb4).trans kc
        have tw4 := (HH.out.1.cell (p := ⟨g4, o4 + k * 3 + 1, none⟩) hb4).trans tc
        have lw4 := (HH.out.1.cell (p := ⟨g4, o4 + k * 3 + 2, none⟩) hb4).trans lc
        clear kc tc lc
        generalize K4 k = key4 at kw4
        generalize T4 k = tm4 at tw4
        generalize L4 k = fl4 at lw4
        go_wp2_with fail
        refine (HH.out.calls ((step_any b2 c2 s2 key4 tm4 fl4).right (Pair.good b1 c1 _))).mono ?_
        rintro e v ⟨rfl, hh⟩
        have HV := Lib.hid hh
        clear hh HH kw4 tw4 lw4
        go_wp2
        go_roundw
        case rel => exact ⟨k + 1, by go_num, by omega, _, _, HV.out⟩
        case measure => simp [intOf]; omega
      · go_wp2
        go_ret
        exact ⟨rfl, HH.out.1⟩

def Rel_second (w wr : World) (b2 c2 : Nat) (l3 l4 : Nat) (i : Value) : Prop := ∃ k : Nat, i = .int .i64 k ∧ k ≤ max l3 l4 ∧ ∃ s2 : LS, Held w (Pair b2 c2 s2) wr

set_option maxHeartbeats 8000000 in
set_option maxRecDepth 100000 in
theorem walk_second (a0 a1 a2 : Int) (hA : ¬ okArgs a0 a1 a2) (hB : okArgs 1 a1 a2) (x3 : Option Addr) (l3 c3 : Nat) (K3 : Nat → ByteArray) (T3 : Nat → Int) (L3 : Nat → Bool) (x4 : Option Addr) (l4 c4 : Nat) (K4 : Nat → ByteArray) (T4 : Nat → Int) (L4 : Nat → Bool) (w : World) (hl3 : l3 ≤ maxLen) (hr3 : AsksAt w x3 l3 K3 T3 L3) (hl4 : l4 ≤ maxLen) (hr4 : AsksAt w x4 l4 K4 T4 L4) :
    Calls Try.prog 5 #[.int .i64 a0, .int .i64 a1, .int .i64 a2, .slice x3 l3 c3, .slice x4 l4 c4] w fun e w' => e = .returned (.bool true) ∧ Below w.heap.size w w' := by
  have HR3 := Lib.hid hr3
  have HR4 := Lib.hid hr4
  have HA := Lib.hid hA
  have HB := Lib.hid hB
  have hm3 : l3 ≤ 9223372036854775807 := by unfold maxLen at hl3; omega
  have hm4 : l4 ≤ 9223372036854775807 := by unfold maxLen at hl4; omega
  clear hr3 hr4 hA hB hl3 hl4
  go_enter Try.func5, Try.ntmps5
  go_wp2_with fail
  refine (new_no a0 a1 a2 w HA.out).mono ?_
  rintro e w' ⟨rfl, rfl⟩
  go_wp2_with fail
  refine (new_res w 1 a1 a2 HB.out).mono ?_
  rintro e u1 ⟨rfl, hb, F, hR, hF⟩
  have hh := Held.first (w0 := w) (Below.refl _ _) hb hR hF
  have H1 := Lib.hid hh
  clear hh hb hR hF
  go_wp2_with fail
  refine (rnew_no a0 a1 a2 u1 HA.out).mono ?_
  rintro e w' ⟨rfl, rfl⟩
  go_wp2_with fail
  refine (rnew_res u1 1 a1 a2 HB.out).mono ?_
  rintro e u2 ⟨rfl, hb, F, hR, hF⟩
  have hh := H1.out.add (LimR.good _ _) hb hR hF
  have H2 := Lib.hid hh
  clear hh hb hR hF H1
  go_wp2_with (first | (go_at_call 9; refine (num_any 1 _ (by omega) (by omega)).mono ?_; rintro e w' ⟨rfl, rfl⟩) | (go_at_call 9; refine (num_any 0 _ (by omega) (by omega)).mono ?_; rintro e w' ⟨rfl, rfl⟩) | (go_at_call 10; refine (knows_any _).mono ?_; rintro e u5 ⟨rfl, hb'⟩; have HB' := Lib.hid hb'; clear hb'))
  have hh := H2.out.below ((LimR.good _ _).star (RefR.good _ _)) HB'.out
  have HH := Lib.hid hh
  clear hh HB' H2
  generalize w.heap.size + 1 = b2 at HH ⊢
  generalize u1.heap.size = c2 at HH ⊢
  go_loopw [17] (fun i wr => Rel_second w wr b2 c2 l3 l4 i) (fun i _ => max l3 l4 - (intOf i).toNat)
  case atStart => exact ⟨0, rfl, by omega, _, HH.out⟩
  case round =>
    obtain ⟨k, rfl, hk, s2, hh⟩ := hrel
    clear HH
    have HH := Lib.hid hh
    clear hh
    by_cases h3 : k < l3
    · by_cases h4 : k < l4
      · have hk1 : (k : Int) + 1 ≤ 9223372036854775807 := by omega
        obtain ⟨g4, o4, rfl, hb4, kc, tc, lc⟩ := HR4.out k h4
        have kw4 := (HH.out.1.cell (p := ⟨g4, o4 + k * 3, none⟩) hb4).trans kc
        have tw4 := (HH.out.1.cell (p := ⟨g4, o4 + k * 3 + 1, none⟩) hb4).trans tc
        have lw4 := (HH.out.1.cell (p := ⟨g4, o4 + k * 3 + 2, none⟩) hb4).trans lc
        clear kc tc lc
        generalize K4 k = key4 at kw4
        generalize T4 k = tm4 at tw4
        generalize L4 k = fl4 at lw4
        go_wp2_with fail
        refine (HH.out.calls (step_any b2 c2 s2 key4 tm4 fl4)).mono ?_
        rintro e v ⟨rfl, hh⟩
        have HV := Lib.hid hh
        clear hh HH kw4 tw4 lw4
        go_wp2
        go_roundw
        case rel => exact ⟨k + 1, by go_num, by omega, _, HV.out⟩
        case measure => simp [intOf]; omega
      · have hk1 : (k : Int) + 1 ≤ 9223372036854775807 := by omega
        go_wp2
        go_roundw
        case rel => exact ⟨k + 1, by go_num, by omega, _, HH.out⟩
        case measure => simp [intOf]; omega
    · by_cases h4 : k < l4
      · have hk1 : (k : Int) + 1 ≤ 9223372036854775807 := by omega
        obtain ⟨g4, o4, rfl, hb4, kc, tc, lc⟩ := HR4.out k h4
        have kw4 := (HH.out.1.cell (p := ⟨g4, o4 + k * 3, none⟩) hb4).trans kc
        have tw4 := (HH.out.1.cell (p := ⟨g4, o4 + k * 3 + 1, none⟩) hb4).trans tc
        have lw4 := (HH.out.1.cell (p := ⟨g4, o4 + k * 3 + 2, none⟩) hb4).trans lc
        clear kc tc lc
        generalize K4 k = key4 at kw4
        generalize T4 k = tm4 at tw4
        generalize L4 k = fl4 at lw4
        go_wp2_with fail
        refine (HH.out.calls (step_any b2 c2 s2 key4 tm4 fl4)).mono ?_
        rintro e v ⟨rfl, hh⟩
        have HV := Lib.hid hh
        clear hh HH kw4 tw4 lw4
        go_wp2
        go_roundw
        case rel => exact ⟨k + 1, by go_num, by omega, _, HV.out⟩
        case measure => simp [intOf]; omega
      · go_wp2
        go_ret
        exact ⟨rfl, HH.out.1⟩

def Rel_none (w wr : World) (l3 l4 : Nat) (i : Value) : Prop := ∃ k : Nat, i = .int .i64 k ∧ k ≤ max l3 l4 ∧ Below w.heap.size w wr

set_option maxHeartbeats 8000000 in
set_option maxRecDepth 100000 in
theorem walk_none (a0 a1 a2 : Int) (hA : ¬ okArgs a0 a1 a2) (hB : ¬ okArgs 1 a1 a2) (x3 : Option Addr) (l3 c3 : Nat) (K3 : Nat → ByteArray) (T3 : Nat → Int) (L3 : Nat → Bool) (x4 : Option Addr) (l4 c4 : Nat) (K4 : Nat → ByteArray) (T4 : Nat → Int) (L4 : Nat → Bool) (w : World) (hl3 : l3 ≤ maxLen) (hr3 : AsksAt w x3 l3 K3 T3 L3) (hl4 : l4 ≤ maxLen) (hr4 : AsksAt w x4 l4 K4 T4 L4) :
    Calls Try.prog 5 #[.int .i64 a0, .int .i64 a1, .int .i64 a2, .slice x3 l3 c3, .slice x4 l4 c4] w fun e w' => e = .returned (.bool true) ∧ Below w.heap.size w w' := by
  have HR3 := Lib.hid hr3
  have HR4 := Lib.hid hr4
  have HA := Lib.hid hA
  have HB := Lib.hid hB
  have hm3 : l3 ≤ 9223372036854775807 := by unfold maxLen at hl3; omega
  have hm4 : l4 ≤ 9223372036854775807 := by unfold maxLen at hl4; omega
  clear hr3 hr4 hA hB hl3 hl4
  go_enter Try.func5, Try.ntmps5
  go_wp2_with fail
  refine (new_no a0 a1 a2 w HA.out).mono ?_
  rintro e w' ⟨rfl, rfl⟩
  go_wp2_with fail
  refine (new_no 1 a1 a2 w HB.out).mono ?_
  rintro e w' ⟨rfl, rfl⟩
  go_wp2_with fail
  refine (rnew_no a0 a1 a2 w HA.out).mono ?_
  rintro e w' ⟨rfl, rfl⟩
  go_wp2_with fail
  refine (rnew_no 1 a1 a2 w HB.out).mono ?_
  rintro e w' ⟨rfl, rfl⟩
  go_wp2_with (first | (go_at_call 9; refine (num_any 1 _ (by omega) (by omega)).mono ?_; rintro e w' ⟨rfl, rfl⟩) | (go_at_call 10; refine (knows_any _).mono ?_; rintro e u5 ⟨rfl, hb'⟩; have HB' := Lib.hid hb'; clear hb'))
  have HH := HB'
  go_loopw [17] (fun i wr => Rel_none w wr l3 l4 i) (fun i _ => max l3 l4 - (intOf i).toNat)
  case atStart => exact ⟨0, rfl, by omega, HH.out⟩
  case round =>
    obtain ⟨k, rfl, hk, hh⟩ := hrel
    clear HH
    have HH := Lib.hid hh
    clear hh
    by_cases h3 : k < l3
    · by_cases h4 : k < l4
      · have hk1 : (k : Int) + 1 ≤ 9223372036854775807 := by omega
        go_wp2
        go_roundw
        case rel => exact ⟨k + 1, by go_num, by omega, HH.out⟩
        case measure => simp [intOf]; omega
      · have hk1 : (k : Int) + 1 ≤ 9223372036854775807 := by omega
        go_wp2
        go_roundw
        case rel => exact ⟨k + 1, by go_num, by omega, HH.out⟩
        case measure => simp [intOf]; omega
    · by_cases h4 : k < l4
      · have hk1 : (k : Int) + 1 ≤ 9223372036854775807 := by omega
        go_wp2
        go_roundw
        case rel => exact ⟨k + 1, by go_num, by omega, HH.out⟩
        case measure => simp [intOf]; omega
      · go_wp2
        go_ret
        exact ⟨rfl, HH.out⟩

theorem walk (a0 a1 a2 : Int) (x3 : Option Addr) (l3 c3 : Nat) (K3 : Nat → ByteArray) (T3 : Nat → Int) (L3 : Nat → Bool) (x4 : Option Addr) (l4 c4 : Nat) (K4 : Nat → ByteArray) (T4 : Nat → Int) (L4 : Nat → Bool) (w : World) (hl3 : l3 ≤ maxLen) (hr3 : AsksAt w x3 l3 K3 T3 L3) (hl4 : l4 ≤ maxLen) (hr4 : AsksAt w x4 l4 K4 T4 L4) :
    Calls Try.prog 5 #[.int .i64 a0, .int .i64 a1, .int .i64 a2, .slice x3 l3 c3, .slice x4 l4 c4] w fun e w' => e = .returned (.bool true) ∧ Below w.heap.size w w' := by
  by_cases hA : okArgs a0 a1 a2
  · have hB : okArgs 1 a1 a2 := by unfold okArgs at *; omega
    exact walk_both a0 a1 a2 hA hB x3 l3 c3 K3 T3 L3 x4 l4 c4 K4 T4 L4 w hl3 hr3 hl4 hr4
  · by_cases hB : okArgs 1 a1 a2
    · exact walk_second a0 a1 a2 hA hB x3 l3 c3 K3 T3 L3 x4 l4 c4 K4 T4 L4 w hl3 hr3 hl4 hr4
    · exact walk_none a0 a1 a2 hA hB x3 l3 c3 K3 T3 L3 x4 l4 c4 K4 T4 L4 w hl3 hr3 hl4 hr4
end Go.Proofs.Ytmdallmbmjcdfaa.Rf
