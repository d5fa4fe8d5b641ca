/- A limiter of the call's own; knows answers true. -/
import Derived.Test.YtmdallmbmjcdfaaLimc
import Derived.Test.YtmdallmbmjcdfaaBoundP
set_option linter.unusedVariables false
namespace Go.Proofs.Ytmdallmbmjcdfaa.Lm
open Go.RowKit

/-- a limiter at block b, made since the world w0 -/
def Loc (w0 w : World) (b : Nat) (s : LS) : Prop :=
  Ok s ∧ Below w0.heap.size w0 w ∧ ∃ m sv, LimW w b m sv s ∧ ∀ k, feet b m sv k → w0.heap.size ≤ k

theorem Loc.below {w0 w w' : World} {b : Nat} {s : LS} (h : Loc w0 w b s) (hb : Below w.heap.size w w') : Loc w0 w' b s := by
  obtain ⟨h1, h2, m, sv, h3, h4⟩ := h
  exact ⟨h1, h2.trans (hb.mono h2.size), m, sv, h3.below hb, h4⟩

theorem Loc.ok {w0 w : World} {b : Nat} {s : LS} (h : Loc w0 w b s) : Ok s := h.1

theorem allow_loc {w0 w : World} {b : Nat} {s : LS} (h : Loc w0 w b s) (k : ByteArray) (now : Int) :
    Calls Try.prog 11 #[.pointer (some ⟨b, 0, none⟩), .string k, .int .i64 now] w fun e w' => e = .returned (.bool (decide (0 < left s k now))) ∧ Loc w0 w' b (allow s k now) := by
  obtain ⟨h1, h2, m, sv, h3, h4⟩ := h
  refine (allow_any b m sv s k now w h3 h1).mono fun e w' ⟨he, sv', g1, g2, g3⟩ => ⟨he, allow_ok h1 k now, ?_, m, sv', g1, ?_⟩
  · exact h2.trans (g2.below h2.size (fun q hq hf => by have := h4 q hf; omega))
  · intro q hq
    rcases hq with hq | hq | hq
    · exact h4 q (.inl hq)
    · exact h4 q (.inr (.inl hq))
    · rcases g3 with g3 | ⟨g, g4, g5⟩
      · exact h4 q (.inr (.inr (g3.symm.trans hq)))
      · rw [hq] at g4; cases g4; exact Nat.le_trans h2.size g5

/-- rows of other kinds stay -/
def KeepsT (w w' : World) : Prop := ∀ (g : Nat) (cur : Array Value) (t : TypeId) (fr : Nat × Nat), t ≠ 56 → t ≠ 9 → w.heap[g]? = some (.cells cur t fr) → w'.heap[g]? = some (.cells cur t fr)

theorem KeepsT.below {w w' : World} (h : Below w.heap.size w w') : KeepsT w w' := fun g cur t fr _ _ hg => (h.block g (Array.getElem?_eq_some_iff.1 hg).1).trans hg

theorem KeepsT.foot {w w' : World} {b m : Nat} {sv : Value} {s : LS} (h : LimW w b m sv s) (hf : Foot w w' (feet b m sv)) : KeepsT w w' := by
  intro g cur t fr h1 h2 hg
  rw [hf.block g (Array.getElem?_eq_some_iff.1 hg).1]
  · exact hg
  · rintro (rfl | rfl | q)
    · have := h.1; rw [hg] at this; cases this; exact h1 rfl
    · obtain ⟨es, cl, q, _⟩ := h.2.1; rw [hg] at q; cases q
    · rcases h.2.2.2 with ⟨rfl, _⟩ | ⟨g', cap, cur', rfl, _, q', _⟩
      · cases q
      · cases q; rw [hg] at q'; cases q'; exact h2 rfl

theorem allow_locK {w0 w : World} {b : Nat} {s : LS} (h : Loc w0 w b s) (k : ByteArray) (now : Int) :
    Calls Try.prog 11 #[.pointer (some ⟨b, 0, none⟩), .string k, .int .i64 now] w fun e w' => e = .returned (.bool (decide (0 < left s k now))) ∧ Loc w0 w' b (allow s k now) ∧ KeepsT w w' := by
  obtain ⟨h1, h2, m, sv, h3, h4⟩ := h
  refine (allow_any b m sv s k now w h3 h1).mono fun e w' ⟨he, sv', g1, g2, g3⟩ => ⟨he, ⟨allow_ok h1 k now, ?_, m, sv', g1, ?_⟩, KeepsT.foot h3 g2⟩
  · exact h2.trans (g2.below h2.size (fun q hq hf => by have := h4 q hf; omega))
  · intro q hq
    rcases hq with hq | hq | hq
    · exact h4 q (.inl hq)
    · exact h4 q (.inr (.inl hq))
    · rcases g3 with g3 | ⟨g, g4, g5⟩
      · exact h4 q (.inr (.inr (g3.symm.trans hq)))
      · rw [hq] at g4; cases g4; exact Nat.le_trans h2.size g5

theorem left_locK {w0 w : World} {b : Nat} {s : LS} (h : Loc w0 w b s) (k : ByteArray) (now : Int) :
    Calls Try.prog 12 #[.pointer (some ⟨b, 0, none⟩), .string k, .int .i64 now] w fun e w' => e = .returned (.int .i64 (left s k now)) ∧ Loc w0 w' b s ∧ KeepsT w w' := by
  obtain ⟨m, sv, h3, h4⟩ := h.2.2
  exact (left_any b m sv s k now w h3 h.1).mono fun e w' ⟨he, hb⟩ => ⟨he, h.below hb, KeepsT.below hb⟩

theorem allow_yes {w0 w : World} {b : Nat} {s : LS} (h : Loc w0 w b s) (k : ByteArray) (now : Int) (hl : decide (0 < left s k now) = true) :
    Calls Try.prog 11 #[.pointer (some ⟨b, 0, none⟩), .string k, .int .i64 now] w fun e w' => e = .returned (.bool true) ∧ Loc w0 w' b (allow s k now) :=
  (allow_loc h k now).mono fun e w' ⟨he, h'⟩ => ⟨by rw [he, hl], h'⟩
theorem allow_not {w0 w : World} {b : Nat} {s : LS} (h : Loc w0 w b s) (k : ByteArray) (now : Int) (hl : decide (0 < left s k now) = false) :
    Calls Try.prog 11 #[.pointer (some ⟨b, 0, none⟩), .string k, .int .i64 now] w fun e w' => e = .returned (.bool false) ∧ Loc w0 w' b (allow s k now) :=
  (allow_loc h k now).mono fun e w' ⟨he, h'⟩ => ⟨by rw [he, hl], h'⟩

theorem left_loc {w0 w : World} {b : Nat} {s : LS} (h : Loc w0 w b s) (k : ByteArray) (now : Int) :
    Calls Try.prog 12 #[.pointer (some ⟨b, 0, none⟩), .string k, .int .i64 now] w fun e w' => e = .returned (.int .i64 (left s k now)) ∧ Loc w0 w' b s := by
  obtain ⟨m, sv, h3, h4⟩ := h.2.2
  exact (left_any b m sv s k now w h3 h.1).mono fun e w' ⟨he, hb⟩ => ⟨he, h.below hb⟩

theorem KeepsT.row {w w' : World} {base : Nat} {t : TypeId} {size : Nat} {v : Value} {n : Nat} {xs : List Value} (h : KeepsT w w') (h1 : t ≠ 56) (h2 : t ≠ 9) (hr : w.ownsRow base t size v n xs) : w'.ownsRow base t size v n xs := by
  obtain ⟨h3, h4⟩ := hr
  refine ⟨h3, ?_⟩
  rcases h4 with h4 | ⟨g, cap, cur, rfl, h5, h6, h7⟩
  · exact .inl h4
  · exact .inr ⟨g, cap, cur, rfl, h5, h g _ _ _ h1 h2 h6, h7⟩

/-- a row of another kind is no limiter's -/
theorem LimW.not_row {w : World} {b m : Nat} {sv : Value} {s : LS} (h : LimW w b m sv s) {g : Nat} {cur : Array Value} {t : TypeId} {fr : Nat × Nat} (h1 : t ≠ 56) (h2 : t ≠ 9) (hg : w.heap[g]? = some (.cells cur t fr)) : ¬ feet b m sv g := by
  rintro (rfl | rfl | q)
  · have := h.1; rw [hg] at this; cases this; exact h1 rfl
  · obtain ⟨es, cl, q, _⟩ := h.2.1; rw [hg] at q; cases q
  · rcases h.2.2.2 with ⟨rfl, _⟩ | ⟨g', cap, cur', rfl, _, q', _⟩
    · cases q
    · cases q; rw [hg] at q'; cases q'; exact h2 rfl

theorem Loc.row {w0 w w' : World} {b : Nat} {s : LS} {o : Obj} {base : Nat} {t : TypeId} {size : Nat} {v : Value} {n : Nat} {xs : List Value} (h : Loc w0 w b s) (h1 : t ≠ 56) (h2 : t ≠ 9) (hr : w.ownsRow base t size v n xs) (hv : ∀ g, v.ownBlock = some g → w0.heap.size ≤ g)
    (hg : (w.alloc o).grownBy w' v.ownBlock) : Loc w0 w' b s := by
  obtain ⟨g1, g2, m, sv, g3, g4⟩ := h
  have hsz : (w.alloc o).heap.size = w.heap.size + 1 := World.size_alloc ..
  refine ⟨g1, ?_, m, sv, ?_, g4⟩
  · refine g2.trans (((Below.refl w0.heap.size w).alloc g2.size o).grown hg (by have := g2.size; omega) hv)
  · refine (g3.alloc o).keep fun k hk hlt => hg.block k hlt ?_
    intro q
    have hkl := g3.feet_lt hk
    rcases hr.2 with ⟨rfl, _⟩ | ⟨g', cap, cur', rfl, _, q', _⟩
    · cases q
    · cases q
      exact g3.not_row h1 h2 q' hk

theorem new_loc (w0 w : World) (rate burst keys : Int) (hb : Below w0.heap.size w0 w) (h : okArgs rate burst keys) :
    Calls Try.prog 8 #[.int .i64 rate, .int .i64 burst, .int .i64 keys] w fun e w' => e = .returned (.tuple #[.pointer (some ⟨w.heap.size + 1, 0, none⟩), .int .i64 0]) ∧ Loc w0 w' (w.heap.size + 1) (mk rate burst keys) ∧ Below w.heap.size w w' := by
  refine (new_yes rate burst keys w h).mono fun e w' ⟨he, hw, hb'⟩ => ⟨he, ⟨mk_ok h, hb.trans (hb'.mono hb.size), w.heap.size, _, hw, ?_⟩, hb'⟩
  intro k hk
  have := hb.size
  rcases hk with rfl | rfl | hk
  · omega
  · omega
  · cases hk

theorem num_any (x : Int) (w : World) (h1 : -9223372036854775808 ≤ x) (h2 : x ≤ 9223372036854775807) : Calls Try.prog 9 #[.int .i64 x] w fun e w' => e = .returned (.int .i64 x) ∧ w = w' := by
  go_enter Try.func9, Try.ntmps9
  go_wp2
  go_ret
  exact ⟨rfl, rfl⟩


def kb : ByteArray := { data := #[98] }
def s0 : LS := mk 1 1 9
def s1 : LS := allow s0 ka 0
def s2 : LS := allow s1 ka 0
def s3 : LS := allow s2 ka 0
def s4 : LS := allow s3 ka 1
def s5 : LS := allow s4 ka 1
def s6 : LS := allow s5 kb 1
theorem v0 : decide (0 < left s0 ka 0) = true := by decide +kernel
theorem v1 : decide (0 < left s1 ka 0) = true := by decide +kernel
theorem v2 : decide (0 < left s2 ka 0) = false := by decide +kernel
theorem v3 : decide (0 < left s3 ka 1) = true := by decide +kernel
theorem v4 : decide (0 < left s4 ka 1) = false := by decide +kernel
theorem v5 : decide (0 < left s5 kb 1) = true := by decide +kernel

set_option maxHeartbeats 1600000 in
theorem knows_any (w : World) : Calls Try.prog 10 #[] w fun e w' => e = .returned (.bool true) ∧ Below w.heap.size w w' := by
  go_enter Try.func10, Try.ntmps10
  go_wp2_with fail
  refine (new_loc w w 1 1 9 (Below.refl _ _) (by unfold okArgs; omega)).mono ?_
  rintro e u1 ⟨rfl, h1, -⟩
  have H1 : Hid (Loc w u1 (w.heap.size + 1) s0) := h1
  clear h1
  go_wp2_with fail
  refine (num_any 0 _ (by omega) (by omega)).mono ?_
  rintro e w' ⟨rfl, rfl⟩
  go_wp2_with fail
  refine (allow_yes H1.out ka 0 v0).mono ?_
  rintro e u2 ⟨rfl, h⟩; have H2 : Hid (Loc w u2 (w.heap.size + 1) s1) := h; clear h H1
  go_wp2_with fail
  refine (allow_yes H2.out ka 0 v1).mono ?_
  rintro e u3 ⟨rfl, h⟩; have H3 : Hid (Loc w u3 (w.heap.size + 1) s2) := h; clear h H2
  go_wp2_with fail
  refine (allow_not H3.out ka 0 v2).mono ?_
  rintro e u4 ⟨rfl, h⟩; have H4 : Hid (Loc w u4 (w.heap.size + 1) s3) := h; clear h H3
  go_wp2_with fail
  refine (allow_yes H4.out ka 1 v3).mono ?_
  rintro e u5 ⟨rfl, h⟩; have H5 : Hid (Loc w u5 (w.heap.size + 1) s4) := h; clear h H4
  go_wp2_with fail
  refine (allow_not H5.out ka 1 v4).mono ?_
  rintro e u6 ⟨rfl, h⟩; have H6 : Hid (Loc w u6 (w.heap.size + 1) s5) := h; clear h H5
  go_wp2_with fail
  refine (allow_yes H6.out kb 1 v5).mono ?_
  rintro e u7 ⟨rfl, h⟩; have H7 : Hid (Loc w u7 (w.heap.size + 1) s6) := h; clear h H6
  go_wp2
  go_ret
  exact ⟨rfl, H7.out.2.1⟩
end Go.Proofs.Ytmdallmbmjcdfaa.Lm
