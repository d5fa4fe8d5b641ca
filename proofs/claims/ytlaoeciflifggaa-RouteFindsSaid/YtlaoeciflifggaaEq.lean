/- Equal, patterns: the program's and the document's. -/
import Derived.Test.YtlaoeciflifggaaLow
set_option linter.unusedVariables false
namespace Go.Proofs.Ytlaoeciflifggaa.Rt
open Go.RowKit
open Go.Lib hiding intOf

/-- the same but for great and small letters -/
def eqf (a b : ByteArray) : Bool := decide (low a = low b)

theorem beq_str (x y : ByteArray) : (x.toList == y.toList) = decide (x = y) := by
  rw [Bool.eq_iff_iff, beq_iff_eq, decide_eq_true_eq]
  constructor
  · intro h
    rw [Lib.toList_data, Lib.toList_data] at h
    exact ByteArray.ext (Array.toList_inj.1 h)
  · rintro rfl; rfl

theorem eqf_size {a b : ByteArray} (h : eqf a b = true) : a.size = b.size := by
  have := of_decide_eq_true h
  rw [← low_size a, ← low_size b, this]

def BoolBelow (b : Bool) (w : World) (e : Ending) (w' : World) : Prop := e = .returned (.bool b) ∧ Below w.heap.size w w'

set_option maxHeartbeats 1000000 in
theorem equal_any (a b : ByteArray) (w : World) (ha : a.size ≤ 9223372036854775807) (hb : b.size ≤ 9223372036854775807) : Calls Try.prog 18 #[.string a, .string b] w (BoolBelow (eqf a b) w) := by
  by_cases h : a.size = b.size
  · have hd : ((a.size : Int) == (b.size : Int)) = true := by simp; omega
    clear h
    go_enter Try.func18, Try.ntmps18
    go_wp2_with fail
    refine (lower_any a _ ha).mono ?_
    rintro e w1 ⟨rfl, hb1⟩
    have HB1 := Lib.hid hb1
    clear hb1
    go_wp2_with fail
    refine (lower_any b _ hb).mono ?_
    rintro e w2 ⟨rfl, hb2⟩
    have HB2 := Lib.hid (HB1.out.trans (hb2.mono HB1.out.size))
    have hq := beq_str (low a) (low b)
    clear hb2
    go_wp2_with fail
    go_ret
    exact ⟨rfl, HB2.out⟩
  · have hd : ((a.size : Int) == (b.size : Int)) = false := by simp; omega
    have hf : eqf a b = false := by
      cases hq : eqf a b with
      | false => rfl
      | true => exact absurd (eqf_size hq) h
    rw [hf]
    clear h hf
    go_enter Try.func18, Try.ntmps18
    go_wp2_with fail
    go_ret
    exact ⟨rfl, Below.refl _ _⟩

set_option maxHeartbeats 1000000 in
theorem refEqual_any (a b : ByteArray) (w : World) (ha : a.size ≤ 9223372036854775807) (hb : b.size ≤ 9223372036854775807) : Calls Try.prog 24 #[.string a, .string b] w (BoolBelow (eqf a b) w) := by
  go_enter Try.func24, Try.ntmps24
  go_wp2_with fail
  refine (refLower_any a _ ha).mono ?_
  rintro e w1 ⟨rfl, hb1⟩
  have HB1 := Lib.hid hb1
  clear hb1
  go_wp2_with fail
  refine (refLower_any b _ hb).mono ?_
  rintro e w2 ⟨rfl, hb2⟩
  have HB2 := Lib.hid (HB1.out.trans (hb2.mono HB1.out.size))
  have hq := beq_str (low a) (low b)
  clear hb2
  go_wp2_with fail
  go_ret
  exact ⟨rfl, HB2.out⟩

/-- the end of a host that a pattern's end is held against -/
def tailOf (host e : ByteArray) : ByteArray := host.extract (host.size - e.size) host.size
/-- is a name a pattern? -/
def wildB (name : ByteArray) : Bool := hp name star && hp (rest1 name) dot
/-- how long a pattern is that a host meets; 0: it does not -/
def pat (name host : ByteArray) : Nat := if wildB name = true ∧ (rest1 name).size < host.size ∧ eqf (tailOf host (rest1 name)) (rest1 name) = true then name.size else 0

theorem rest1_size (s : ByteArray) : (rest1 s).size = s.size - 1 := by unfold rest1; simp
theorem tail_size (h e : ByteArray) : (tailOf h e).size ≤ h.size := by unfold tailOf; simp
theorem hp_star (s : ByteArray) (h : hp s star = true) : 1 ≤ s.size := by
  unfold hp Lib.hasPrefix star at h
  rw [Lib.size_eq]
  cases hl : s.data.toList with
  | nil => rw [hl] at h; simp at h
  | cons x l => simp
theorem wildB_size (s : ByteArray) (h : wildB s = true) : 2 ≤ s.size := by
  unfold wildB at h
  rw [Bool.and_eq_true] at h
  have h1 : 1 ≤ (rest1 s).size := by
    have h := h.2
    unfold hp Lib.hasPrefix dot at h
    rw [Lib.size_eq]
    cases hl : (rest1 s).data.toList with
    | nil => rw [hl] at h; simp at h
    | cons x l => simp
  rw [rest1_size] at h1; omega

theorem pat_le (name host : ByteArray) : pat name host ≤ name.size := by unfold pat; split <;> omega

def NatBelow (n : Nat) (w : World) (e : Ending) (w' : World) : Prop := e = .returned (.int .i64 n) ∧ Below w.heap.size w w'

theorem pattern_no (name host : ByteArray) (w : World) (hn : name.size ≤ 9223372036854775807) (hh : host.size ≤ 9223372036854775807) (h : wildB name = false) : Calls Try.prog 21 #[.string name, .string host] w (NatBelow 0 w) := by
  unfold wildB at h
  cases hs : hp name star with
  | false =>
    clear h
    go_enter Try.func21, Try.ntmps21
    go_wp2_with (go_at_call 32; refine (cut_no _ _ hs).mono ?_; rintro e w' ⟨rfl, rfl⟩)
    go_ret
    exact ⟨rfl, Below.refl _ _⟩
  | true =>
    have hd : hp (rest1 name) { data := #[46] } = false := by rw [hs] at h; simp at h; exact h
    have HD := Lib.hid hd
    clear h hd
    go_enter Try.func21, Try.ntmps21
    go_wp2_with (first | (go_at_call 32; refine (cut_yes _ _ hs (hp_star _ hs)).mono ?_; rintro e w' ⟨rfl, rfl⟩) | (go_at_call 28; refine (has_any _ _ _).mono ?_; rintro e w' ⟨rfl, rfl⟩; rw [HD.out]))
    go_ret
    exact ⟨rfl, Below.refl _ _⟩

set_option maxHeartbeats 1000000 in
theorem pattern_any (name host : ByteArray) (w : World) (hn : name.size ≤ 9223372036854775807) (hh : host.size ≤ 9223372036854775807) : Calls Try.prog 21 #[.string name, .string host] w (NatBelow (pat name host) w) := by
  cases hw : wildB name with
  | false =>
    have : pat name host = 0 := by unfold pat; rw [if_neg]; simp [hw]
    rw [this]
    exact pattern_no name host w hn hh hw
  | true =>
    have hs2 := wildB_size name hw
    have hr1 := rest1_size name
    have hb : hp name star = true ∧ hp (rest1 name) dot = true := by unfold wildB at hw; simpa using hw
    have hd : hp (rest1 name) { data := #[46] } = true := hb.2
    have hst := hb.1
    have HD := Lib.hid hd
    have HS := Lib.hid hst
    have hrl : (rest1 name).size ≤ 9223372036854775807 := by omega
    have hP : pat name host = if (rest1 name).size < host.size ∧ eqf (tailOf host (rest1 name)) (rest1 name) = true then name.size else 0 := by unfold pat; simp [hw]
    have HP := Lib.hid hP
    clear hb hd hst hw hr1 hP
    by_cases hl : (rest1 name).size < host.size
    · have hdl : decide (host.size ≤ (rest1 name).size) = false := by simp; omega
      have hle : (rest1 name).size ≤ host.size := by omega
      have hsub : IntKind.i64.wrap ((host.size : Int) - ((rest1 name).size : Int)) = ((host.size - (rest1 name).size : Nat) : Int) := by rw [IntKind.wrap_i64]; omega
      have HT : Hid (host.extract (host.size - (rest1 name).size) host.size = tailOf host (rest1 name)) := Lib.hid rfl
      cases hq : eqf (tailOf host (rest1 name)) (rest1 name) with
      | true =>
        rw [HP.out, if_pos ⟨hl, hq⟩]
        have HQ := Lib.hid hq
        clear hq
        go_enter Try.func21, Try.ntmps21
        go_wp2_with (first | (go_at_call 32; refine (cut_yes _ _ HS.out (hp_star _ HS.out)).mono ?_; rintro e w' ⟨rfl, rfl⟩) | (go_at_call 28; refine (has_any _ _ _).mono ?_; rintro e w' ⟨rfl, rfl⟩; rw [HD.out]))
        rw [HT.out]
        refine (equal_any _ _ _ (Nat.le_trans (tail_size _ _) hh) hrl).mono ?_
        rintro e w1 ⟨rfl, hb1⟩
        rw [HQ.out]
        have HB1 := Lib.hid hb1
        clear hb1
        go_wp2_with fail
        go_ret
        exact ⟨rfl, HB1.out⟩
      | false =>
        rw [HP.out, if_neg (by rw [hq]; simp)]
        have HQ := Lib.hid hq
        clear hq
        go_enter Try.func21, Try.ntmps21
        go_wp2_with (first | (go_at_call 32; refine (cut_yes _ _ HS.out (hp_star _ HS.out)).mono ?_; rintro e w' ⟨rfl, rfl⟩) | (go_at_call 28; refine (has_any _ _ _).mono ?_; rintro e w' ⟨rfl, rfl⟩; rw [HD.out]))
        rw [HT.out]
        refine (equal_any _ _ _ (Nat.le_trans (tail_size _ _) hh) hrl).mono ?_
        rintro e w1 ⟨rfl, hb1⟩
        rw [HQ.out]
        have HB1 := Lib.hid hb1
        clear hb1
        go_wp2_with fail
        go_ret
        exact ⟨rfl, HB1.out⟩
    · have hdl : decide (host.size ≤ (rest1 name).size) = true := by simp; omega
      rw [HP.out, if_neg (fun h => hl h.1)]
      go_enter Try.func21, Try.ntmps21
      go_wp2_with (first | (go_at_call 32; refine (cut_yes _ _ HS.out (hp_star _ HS.out)).mono ?_; rintro e w' ⟨rfl, rfl⟩) | (go_at_call 28; refine (has_any _ _ _).mono ?_; rintro e w' ⟨rfl, rfl⟩; rw [HD.out]))
      go_ret
      exact ⟨rfl, Below.refl _ _⟩

/-- the document's test for a pattern -/
theorem wild_test (name : ByteArray) (h : 2 ≤ name.size) : ((name.extract 0 2).toList == [42, 46]) = wildB name := by
  unfold wildB hp Lib.hasPrefix rest1 star dot
  rw [Lib.extract_toList, Lib.extract_data]
  rw [Lib.size_eq] at h ⊢
  generalize name.data.toList = l at h ⊢
  match l, h with
  | x :: y :: l, _ =>
    have e1 : (x == 42) = (42 == x) := Bool.eq_iff_iff.2 ⟨fun h => by rw [beq_iff_eq] at *; exact h.symm, fun h => by rw [beq_iff_eq] at *; exact h.symm⟩
    have e2 : (y == 46) = (46 == y) := Bool.eq_iff_iff.2 ⟨fun h => by rw [beq_iff_eq] at *; exact h.symm, fun h => by rw [beq_iff_eq] at *; exact h.symm⟩
    simp [List.isPrefixOf, e1, e2]

theorem wildB_short (name : ByteArray) (h : name.size < 2) : wildB name = false := by
  cases hw : wildB name with
  | false => rfl
  | true => have := wildB_size name hw; omega

set_option maxHeartbeats 1000000 in
theorem wild_any (name host : ByteArray) (w : World) (hn : name.size ≤ 9223372036854775807) (hh : host.size ≤ 9223372036854775807) : Calls Try.prog 25 #[.string name, .string host] w (NatBelow (pat name host) w) := by
  by_cases h2 : name.size < 2
  · have hd : decide ((name.size : Int) < 2) = true := by simp; omega
    have : pat name host = 0 := by unfold pat; rw [if_neg]; simp [wildB_short name h2]
    rw [this]
    go_enter Try.func25, Try.ntmps25
    go_wp2_with fail
    go_ret
    exact ⟨rfl, Below.refl _ _⟩
  · have hd : decide ((name.size : Int) < 2) = false := by simp; omega
    have ht := wild_test name (by omega)
    have h22 : 2 ≤ name.size := by omega
    have h1n : 1 ≤ name.size := by omega
    cases hw : wildB name with
    | false =>
      rw [hw] at ht
      have : pat name host = 0 := by unfold pat; rw [if_neg]; simp [hw]
      rw [this]
      go_enter Try.func25, Try.ntmps25
      go_wp2_with fail
      go_ret
      exact ⟨rfl, Below.refl _ _⟩
    | true =>
      rw [hw] at ht
      have hr1 := rest1_size name
      have hrl : (rest1 name).size ≤ 9223372036854775807 := by omega
      have HR : Hid (name.extract 1 name.size = rest1 name) := Lib.hid rfl
      have hP : pat name host = if (rest1 name).size < host.size ∧ eqf (tailOf host (rest1 name)) (rest1 name) = true then name.size else 0 := by unfold pat; simp [hw]
      have HP := Lib.hid hP
      clear hw hr1 hP h2
      by_cases hl : (rest1 name).size < host.size
      · have hdl : decide (host.size ≤ (rest1 name).size) = false := by simp; omega
        have hle : (rest1 name).size ≤ host.size := by omega
        have hsub : IntKind.i64.wrap ((host.size : Int) - ((rest1 name).size : Int)) = ((host.size - (rest1 name).size : Nat) : Int) := by rw [IntKind.wrap_i64]; omega
        have HT : Hid (host.extract (host.size - (rest1 name).size) host.size = tailOf host (rest1 name)) := Lib.hid rfl
        cases hq : eqf (tailOf host (rest1 name)) (rest1 name) with
        | true =>
          rw [HP.out, if_pos ⟨hl, hq⟩]
          have HQ := Lib.hid hq
          clear hq
          go_enter Try.func25, Try.ntmps25
          have HR2 := HR.out
          go_wp2_with fail
          rw [HT.out]
          refine (refEqual_any _ _ _ (Nat.le_trans (tail_size _ _) hh) hrl).mono ?_
          rintro e w1 ⟨rfl, hb1⟩
          rw [HQ.out]
          have HB1 := Lib.hid hb1
          clear hb1
          go_wp2_with fail
          go_ret
          exact ⟨rfl, HB1.out⟩
        | false =>
          rw [HP.out, if_neg (by rw [hq]; simp)]
          have HQ := Lib.hid hq
          clear hq
          go_enter Try.func25, Try.ntmps25
          have HR2 := HR.out
          go_wp2_with fail
          rw [HT.out]
          refine (refEqual_any _ _ _ (Nat.le_trans (tail_size _ _) hh) hrl).mono ?_
          rintro e w1 ⟨rfl, hb1⟩
          rw [HQ.out]
          have HB1 := Lib.hid hb1
          clear hb1
          go_wp2_with fail
          go_ret
          exact ⟨rfl, HB1.out⟩
      · have hdl : decide (host.size ≤ (rest1 name).size) = true := by simp; omega
        rw [HP.out, if_neg (fun h => hl h.1)]
        go_enter Try.func25, Try.ntmps25
        have HR2 := HR.out
        go_wp2_with fail
        go_ret
        exact ⟨rfl, Below.refl _ _⟩
end Go.Proofs.Ytlaoeciflifggaa.Rt
