/- Things in memory with footprints; two things apart; a limiter as such a thing. -/
import Derived.Test.YtmdallmbmjcdfaaKnow
set_option linter.unusedVariables false
namespace Go.Proofs.Ytmdallmbmjcdfaa
open Go.RowKit

/-- a thing in memory: it holds in a world, on these blocks -/
abbrev Res := World → (Nat → Prop) → Prop

/-- it looks at its own blocks alone -/
structure Good (R : Res) : Prop where
  keep : ∀ {w w' : World} {F : Nat → Prop}, R w F → (∀ k, F k → k < w.heap.size → w'.heap[k]? = w.heap[k]?) → R w' F
  lt : ∀ {w : World} {F : Nat → Prop}, R w F → ∀ k, F k → k < w.heap.size

/-- what an operation on a thing does: another thing, on the same blocks and new ones -/
def Turns (R' : Res) (w w' : World) (F : Nat → Prop) : Prop := ∃ F', R' w' F' ∧ Foot w w' F ∧ ∀ k, F' k → F k ∨ w.heap.size ≤ k

def Star (R1 R2 : Res) : Res := fun w F => ∃ F1 F2, R1 w F1 ∧ R2 w F2 ∧ (∀ k, F1 k → ¬ F2 k) ∧ ∀ k, F k ↔ F1 k ∨ F2 k

theorem Good.star {R1 R2 : Res} (h1 : Good R1) (h2 : Good R2) : Good (Star R1 R2) where
  keep := fun ⟨F1, F2, g1, g2, hd, hF⟩ hk => ⟨F1, F2, h1.keep g1 fun k q => hk k ((hF k).2 (.inl q)), h2.keep g2 fun k q => hk k ((hF k).2 (.inr q)), hd, hF⟩
  lt := fun ⟨F1, F2, g1, g2, hd, hF⟩ k q => by
    rcases (hF k).1 q with q | q
    · exact h1.lt g1 k q
    · exact h2.lt g2 k q

theorem Turns.below {R : Res} (hg : Good R) {w w' : World} {F : Nat → Prop} (h : R w F) (hb : Below w.heap.size w w') : Turns R w w' F :=
  ⟨F, hg.keep h fun k _ hk => hb.block k hk, Foot.ofBelow hb _, fun k q => .inl q⟩

theorem Turns.left {R1' R2 : Res} (h2 : Good R2) {w w' : World} {F F1 F2 : Nat → Prop} (g2 : R2 w F2) (hd : ∀ k, F1 k → ¬ F2 k) (hF : ∀ k, F k ↔ F1 k ∨ F2 k) (ht : Turns R1' w w' F1) : Turns (Star R1' R2) w w' F := by
  obtain ⟨F1', g1, hf, hs⟩ := ht
  refine ⟨fun k => F1' k ∨ F2 k, ⟨F1', F2, g1, h2.keep g2 fun k q hk => hf.block k hk fun q1 => hd k q1 q, ?_, fun k => Iff.rfl⟩, hf.mono fun k _ q => (hF k).2 (.inl q), ?_⟩
  · intro k q1 q2
    rcases hs k q1 with q | q
    · exact hd k q q2
    · have := h2.lt g2 k q2; omega
  · rintro k (q | q)
    · exact (hs k q).imp (fun q => (hF k).2 (.inl q)) id
    · exact .inl ((hF k).2 (.inr q))

theorem Turns.right {R1 R2' : Res} (h1 : Good R1) {w w' : World} {F F1 F2 : Nat → Prop} (g1 : R1 w F1) (hd : ∀ k, F1 k → ¬ F2 k) (hF : ∀ k, F k ↔ F1 k ∨ F2 k) (ht : Turns R2' w w' F2) : Turns (Star R1 R2') w w' F := by
  obtain ⟨F2', g2, hf, hs⟩ := ht
  refine ⟨fun k => F1 k ∨ F2' k, ⟨F1, F2', h1.keep g1 fun k q hk => hf.block k hk fun q1 => hd k q q1, g2, ?_, fun k => Iff.rfl⟩, hf.mono fun k _ q => (hF k).2 (.inr q), ?_⟩
  · intro k q1 q2
    rcases hs k q2 with q | q
    · exact hd k q1 q
    · have := h1.lt g1 k q1; omega
  · rintro k (q | q)
    · exact .inl ((hF k).2 (.inl q))
    · exact (hs k q).imp (fun q => (hF k).2 (.inr q)) id

/-- a call's contract on a thing -/
def Does (f : FuncId) (args : Array Value) (R R' : Res) (v : Value) : Prop :=
  ∀ w F, R w F → Calls Try.prog f args w fun e w' => e = .returned v ∧ Turns R' w w' F

theorem Does.left {f : FuncId} {args : Array Value} {R R' R2 : Res} {v : Value} (h : Does f args R R' v) (h2 : Good R2) : Does f args (Star R R2) (Star R' R2) v :=
  fun w F ⟨F1, F2, g1, g2, hd, hF⟩ => (h w F1 g1).mono fun e w' ⟨he, ht⟩ => ⟨he, ht.left h2 g2 hd hF⟩
theorem Does.right {f : FuncId} {args : Array Value} {R R' R1 : Res} {v : Value} (h : Does f args R R' v) (h1 : Good R1) : Does f args (Star R1 R) (Star R1 R') v :=
  fun w F ⟨F1, F2, g1, g2, hd, hF⟩ => (h w F2 g2).mono fun e w' ⟨he, ht⟩ => ⟨he, ht.right h1 g1 hd hF⟩

/-- things that the call itself has made since the world w0 -/
def Held (w0 : World) (R : Res) (w : World) : Prop := Below w0.heap.size w0 w ∧ ∃ F, R w F ∧ ∀ k, F k → w0.heap.size ≤ k

theorem Held.turn {w0 w w' : World} {R' : Res} {F : Nat → Prop} (hb : Below w0.heap.size w0 w) (hF : ∀ k, F k → w0.heap.size ≤ k) (h : Turns R' w w' F) : Held w0 R' w' := by
  obtain ⟨F', g, hf, hs⟩ := h
  refine ⟨hb.trans (hf.below hb.size fun k hk q => by have := hF k q; omega), F', g, fun k q => ?_⟩
  rcases hs k q with q | q
  · exact hF k q
  · exact Nat.le_trans hb.size q

theorem Held.calls {w0 w : World} {R R' : Res} {f : FuncId} {args : Array Value} {v : Value} (h : Held w0 R w) (hd : Does f args R R' v) : Calls Try.prog f args w fun e w' => e = .returned v ∧ Held w0 R' w' := by
  obtain ⟨hb, F, g, hF⟩ := h
  exact (hd w F g).mono fun e w' ⟨he, ht⟩ => ⟨he, Held.turn hb hF ht⟩

theorem Held.below {w0 w w' : World} {R : Res} (hg : Good R) (h : Held w0 R w) (hb : Below w.heap.size w w') : Held w0 R w' := by
  obtain ⟨hb0, F, g, hF⟩ := h
  exact Held.turn hb0 hF (Turns.below hg g hb)

theorem Held.drewN {w0 w : World} {R : Res} (hg : Good R) (h : Held w0 R w) (n : Nat) : Held w0 R (w.drewN n) := h.below hg ⟨rfl, rfl, rfl, Nat.le_refl _, fun _ _ => rfl⟩
theorem Held.drew {w0 w : World} {R : Res} (hg : Good R) (h : Held w0 R w) : Held w0 R w.drew := h.below hg ⟨rfl, rfl, rfl, Nat.le_refl _, fun _ _ => rfl⟩

/-- a new thing beside those that there are -/
theorem Held.add {w0 w w' : World} {R R' : Res} (hg : Good R) (h : Held w0 R w) {F' : Nat → Prop} (hb : Below w.heap.size w w') (h' : R' w' F') (hn : ∀ k, F' k → w.heap.size ≤ k) : Held w0 (Star R R') w' := by
  obtain ⟨hb0, F, g, hF⟩ := h
  refine ⟨hb0.trans (hb.mono hb0.size), fun k => F k ∨ F' k, ⟨F, F', hg.keep g fun k _ hk => hb.block k hk, h', ?_, fun k => Iff.rfl⟩, ?_⟩
  · intro k q1 q2
    have := hg.lt g k q1
    have := hn k q2
    omega
  · rintro k (q | q)
    · exact hF k q
    · exact Nat.le_trans hb0.size (hn k q)

theorem Held.first {w0 w w' : World} {R' : Res} {F' : Nat → Prop} (hb0 : Below w0.heap.size w0 w) (hb : Below w.heap.size w w') (h' : R' w' F') (hn : ∀ k, F' k → w.heap.size ≤ k) : Held w0 R' w' :=
  ⟨hb0.trans (hb.mono hb0.size), F', h', fun k q => Nat.le_trans hb0.size (hn k q)⟩

namespace Lm
/-- a limiter -/
def LimR (b : Nat) (s : LS) : Res := fun w F => Ok s ∧ ∃ m sv, LimW w b m sv s ∧ ∀ k, F k ↔ feet b m sv k

theorem LimR.good (b : Nat) (s : LS) : Good (LimR b s) where
  keep := fun ⟨h1, m, sv, h2, hF⟩ hk => ⟨h1, m, sv, h2.keep fun k q hlt => hk k ((hF k).2 q) hlt, hF⟩
  lt := fun ⟨h1, m, sv, h2, hF⟩ k q => h2.feet_lt ((hF k).1 q)

theorem allow_does (b : Nat) (s : LS) (k : ByteArray) (now : Int) : Does 11 #[.pointer (some ⟨b, 0, none⟩), .string k, .int .i64 now] (LimR b s) (LimR b (allow s k now)) (.bool (decide (0 < left s k now))) := by
  rintro w F ⟨h1, m, sv, h2, hF⟩
  refine (allow_any b m sv s k now w h2 h1).mono fun e w' ⟨he, sv', g1, g2, g3⟩ => ⟨he, feet b m sv', ⟨allow_ok h1 k now, m, sv', g1, fun k => Iff.rfl⟩, g2.mono (fun k _ q => (hF k).2 q), ?_⟩
  rintro q (hq | hq | hq)
  · exact .inl ((hF q).2 (.inl hq))
  · exact .inl ((hF q).2 (.inr (.inl hq)))
  · rcases g3 with g3 | ⟨g, g4, g5⟩
    · exact .inl ((hF q).2 (.inr (.inr (g3.symm.trans hq))))
    · rw [hq] at g4; cases g4; exact .inr g5

theorem left_does (b : Nat) (s : LS) (k : ByteArray) (now : Int) : Does 12 #[.pointer (some ⟨b, 0, none⟩), .string k, .int .i64 now] (LimR b s) (LimR b s) (.int .i64 (left s k now)) := by
  rintro w F ⟨h1, m, sv, h2, hF⟩
  exact (left_any b m sv s k now w h2 h1).mono fun e w' ⟨he, hb⟩ => ⟨he, Turns.below (LimR.good b s) ⟨h1, m, sv, h2, hF⟩ hb⟩

theorem keys_does (b : Nat) (s : LS) : Does 22 #[.pointer (some ⟨b, 0, none⟩)] (LimR b s) (LimR b s) (.int .i64 s.l.length) := by
  rintro w F ⟨h1, m, sv, h2, hF⟩
  exact (keys_any b m sv s w h2 h1).mono fun e w' ⟨he, hb⟩ => by subst hb; exact ⟨he, Turns.below (LimR.good b s) ⟨h1, m, sv, h2, hF⟩ (Below.refl _ _)⟩

theorem new_res (w : World) (rate burst keys : Int) (h : okArgs rate burst keys) :
    Calls Try.prog 8 #[.int .i64 rate, .int .i64 burst, .int .i64 keys] w fun e w' => e = .returned (.tuple #[.pointer (some ⟨w.heap.size + 1, 0, none⟩), .int .i64 0]) ∧ Below w.heap.size w w' ∧ ∃ F, LimR (w.heap.size + 1) (mk rate burst keys) w' F ∧ ∀ k, F k → w.heap.size ≤ k := by
  refine (new_yes rate burst keys w h).mono fun e w' ⟨he, hw, hb'⟩ => ⟨he, hb', _, ⟨mk_ok h, w.heap.size, _, hw, fun k => Iff.rfl⟩, ?_⟩
  rintro k (rfl | rfl | hk)
  · omega
  · omega
  · cases hk
end Lm

/-! max and min as Lean's own -/
@[go_sem high] theorem run_max_max {P : Program} {w : World} (ts : Array TypeId) (t : TypeId) (k k' : IntKind) (x y : Int) : (Builtin.max_ ts t #[.int k x, .int k' y]).run P w = .ok (.int k (max x y)) w := by
  rw [run_max_int2]
  congr 2
  split <;> omega
@[go_sem high] theorem run_min_min {P : Program} {w : World} (ts : Array TypeId) (t : TypeId) (k k' : IntKind) (x y : Int) : (Builtin.min_ ts t #[.int k x, .int k' y]).run P w = .ok (.int k (min x y)) w := by
  rw [run_min_int2]
  congr 2
  split <;> omega
end Go.Proofs.Ytmdallmbmjcdfaa
