/- The reference's Limiter as a thing in memory: New, Allow, Left. -/
import Derived.Test.YtmdallmbmjcdfaaRefe
set_option linter.unusedVariables false
namespace Go.Proofs.Ytmdallmbmjcdfaa.Rf
open Go.RowKit Go.Proofs.Ytmdallmbmjcdfaa.Lm

theorem allow_ref (c : Nat) (sv : Value) (s : LS) (k : ByteArray) (now : Int) (w : World) (hw : RefW w c sv s) (hs : Ok s) :
    Calls Try.prog 28 #[.pointer (some ⟨c, 0, none⟩), .string k, .int .i64 now] w fun e w' => e = .returned (.bool (decide (0 < left s k now))) ∧ ∃ sv', RefW w' c sv' (allow s k now) ∧ Foot w w' (rfeet c sv) ∧ (sv'.ownBlock = sv.ownBlock ∨ ∃ g, sv'.ownBlock = some g ∧ w.heap.size ≤ g) := by
  cases hf : find s.l k with
  | some bk => exact allow_there c sv s k now w hw hs bk hf
  | none =>
    by_cases hne : (s.l.length : Int) = s.keys
    · exact allow_full c sv s k now w hw hs hf hne
    · exact allow_room c sv s k now w hw hs hf hne

/-- a reference limiter -/
def RefR (c : Nat) (s : LS) : Res := fun w F => Ok s ∧ ∃ sv, RefW w c sv s ∧ ∀ k, F k ↔ rfeet c sv k

theorem RefR.good (c : Nat) (s : LS) : Good (RefR c s) where
  keep := fun ⟨h1, sv, h2, hF⟩ hk => ⟨h1, sv, h2.keep fun k q hlt => hk k ((hF k).2 q) hlt, hF⟩
  lt := fun ⟨h1, sv, h2, hF⟩ k q => h2.lt k ((hF k).1 q)

theorem allow_rdoes (c : Nat) (s : LS) (k : ByteArray) (now : Int) : Does 28 #[.pointer (some ⟨c, 0, none⟩), .string k, .int .i64 now] (RefR c s) (RefR c (allow s k now)) (.bool (decide (0 < left s k now))) := by
  rintro w F ⟨h1, sv, h2, hF⟩
  refine (allow_ref c sv s k now w h2 h1).mono fun e w' ⟨he, sv', g1, g2, g3⟩ => ⟨he, rfeet c sv', ⟨allow_ok h1 k now, sv', g1, fun k => Iff.rfl⟩, g2.mono (fun k _ q => (hF k).2 q), ?_⟩
  rintro q (hq | hq)
  · exact .inl ((hF q).2 (.inl hq))
  · rcases g3 with g3 | ⟨g, g4, g5⟩
    · exact .inl ((hF q).2 (.inr (g3.symm.trans hq)))
    · rw [hq] at g4; cases g4; exact .inr g5

theorem left_rdoes (c : Nat) (s : LS) (k : ByteArray) (now : Int) : Does 27 #[.pointer (some ⟨c, 0, none⟩), .string k, .int .i64 now] (RefR c s) (RefR c s) (.int .i64 (left s k now)) := by
  rintro w F ⟨h1, sv, h2, hF⟩
  exact (left_any c sv s k now w h2 h1).mono fun e w' ⟨he, n, hb⟩ => ⟨he, by subst hb; exact Turns.below (RefR.good c s) ⟨h1, sv, h2, hF⟩ ⟨rfl, rfl, rfl, Nat.le_refl _, fun _ _ => rfl⟩⟩

theorem rnew_no (rate burst keys : Int) (w : World) (h : ¬ okArgs rate burst keys) :
    Calls Try.prog 13 #[.int .i64 rate, .int .i64 burst, .int .i64 keys] w fun e w' => e = .returned (.pointer none) ∧ w = w' := by
  have hd : rate < 1 ∨ ¬ rate < 1 ∧ (1000000 < rate ∨ ¬ 1000000 < rate ∧ (burst < 0 ∨ ¬ burst < 0 ∧ (1000000 < burst ∨ ¬ 1000000 < burst ∧ (keys < 1 ∨ ¬ keys < 1 ∧ 1000 < keys)))) := by
    unfold okArgs at h; omega
  clear h
  rcases hd with h1 | ⟨h1, h2 | ⟨h2, h3 | ⟨h3, h4 | ⟨h4, h5 | ⟨h5, h6⟩⟩⟩⟩⟩
  all_goals
    go_enter Try.func13, Try.ntmps13
    go_wp2
    go_ret
    exact ⟨rfl, rfl⟩

theorem rnew_yes (rate burst keys : Int) (w : World) (h : okArgs rate burst keys) :
    Calls Try.prog 13 #[.int .i64 rate, .int .i64 burst, .int .i64 keys] w fun e w' => e = .returned (.pointer (some ⟨w.heap.size, 0, none⟩)) ∧ Below w.heap.size w w' ∧ RefW w' w.heap.size (.slice none 0 0) (mk rate burst keys) := by
  obtain ⟨h1, h2, h3, h4, h5, h6⟩ := h
  go_enter Try.func13, Try.ntmps13
  go_wp2
  go_ret
  refine ⟨by simp, (Below.refl _ _).alloc (Nat.le_refl _) _, ?_, World.ownsRow_nil _ 0 71 3⟩
  have h := heap_alloc_new w (.cells #[.int .i64 rate, .int .i64 burst, .int .i64 keys, .int .i64 0, .slice none 0 0] 67)
  simp only [mk, show rate + burst - rate = burst by omega]
  exact h

theorem rnew_res (w : World) (rate burst keys : Int) (h : okArgs rate burst keys) :
    Calls Try.prog 13 #[.int .i64 rate, .int .i64 burst, .int .i64 keys] w fun e w' => e = .returned (.pointer (some ⟨w.heap.size, 0, none⟩)) ∧ Below w.heap.size w w' ∧ ∃ F, RefR w.heap.size (mk rate burst keys) w' F ∧ ∀ k, F k → w.heap.size ≤ k := by
  refine (rnew_yes rate burst keys w h).mono fun e w' ⟨he, hb, hw⟩ => ⟨he, hb, _, ⟨mk_ok h, _, hw, fun k => Iff.rfl⟩, ?_⟩
  rintro k (rfl | hk)
  · omega
  · cases hk

theorem turns_calls {R R' : Res} {w w1 : World} {F : Nat → Prop} {f : FuncId} {args : Array Value} {v : Value} (h : Turns R w w1 F) (hd : Does f args R R' v) : Calls Try.prog f args w1 fun e w2 => e = .returned v ∧ Turns R' w w2 F := by
  obtain ⟨F1, g, hf, hs⟩ := h
  refine (hd w1 F1 g).mono fun e w2 ⟨he, F2, g2, hf2, hs2⟩ => ⟨he, F2, g2, hf.trans hf2 (fun k hk q => ?_), fun k q => ?_⟩
  · rcases hs k q with q | q
    · exact q
    · omega
  · rcases hs2 k q with q | q
    · exact hs k q
    · exact .inr (Nat.le_trans hf.size q)

/-- an Ask in a variable of its own -/
def AskR (q : Nat) (k : ByteArray) (t : Int) (l : Bool) : Res := fun w F => w.heap[q]? = some (.cells #[.string k, .int .i64 t, .bool l] 33 (0, 0)) ∧ ∀ x, F x ↔ x = q

theorem AskR.good (q : Nat) (k : ByteArray) (t : Int) (l : Bool) : Good (AskR q k t l) where
  keep := fun ⟨h, hF⟩ hk => ⟨(hk q ((hF q).2 rfl) (Array.getElem?_eq_some_iff.1 h).1).trans h, hF⟩
  lt := fun ⟨h, hF⟩ k hk => by rw [(hF k).1 hk]; exact (Array.getElem?_eq_some_iff.1 h).1

theorem ask_add {R : Res} (hg : Good R) {w : World} {F : Nat → Prop} (h : R w F) (k : ByteArray) (t : Int) (l : Bool) : Turns (Star R (AskR w.heap.size k t l)) w (w.alloc (.cells #[.string k, .int .i64 t, .bool l] 33)) F := by
  refine ⟨fun x => F x ∨ x = w.heap.size, ⟨F, fun x => x = w.heap.size, hg.keep h fun k _ hk => Below.heap_alloc _ _ _ hk, ⟨heap_alloc_new _ _, fun _ => Iff.rfl⟩, ?_, fun _ => Iff.rfl⟩, (Foot.refl w F).alloc _, ?_⟩
  · rintro k q rfl
    exact absurd (hg.lt h _ q) (by omega)
  · rintro k (q | rfl)
    · exact .inl q
    · exact .inr (Nat.le_refl _)

theorem ask_end {R A : Res} {w w1 : World} {F : Nat → Prop} (h : Turns (Star R A) w w1 F) : Turns R w w1 F := by
  obtain ⟨F', ⟨F1, F2, g1, g2, hd, hF⟩, hf, hs⟩ := h
  exact ⟨F1, g1, hf, fun k q => hs k ((hF k).2 (.inl q))⟩

theorem turns_drew {R : Res} (hg : Good R) {w w1 : World} {F : Nat → Prop} (h : Turns R w w1 F) : Turns R w w1.drew F := by
  obtain ⟨F1, g, hf, hs⟩ := h
  exact ⟨F1, hg.keep g fun _ _ _ => rfl, hf.drew, hs⟩

theorem askS {R : Res} {w u : World} {F : Nat → Prop} {q : Nat} {k : ByteArray} {t : Int} {l : Bool} (h : Turns (Star R (AskR q k t l)) w u F) : u.cell? ⟨q, 0, none⟩ = some (.string k) ∧ u.cell? ⟨q, 1, none⟩ = some (.int .i64 t) ∧ u.cell? ⟨q, 2, none⟩ = some (.bool l) := by
  obtain ⟨F', ⟨F1, F2, g1, g2, hd, hF⟩, hf, hs⟩ := h
  have := g2.1
  refine ⟨by simp [World.cell?, this], by simp [World.cell?, this], by simp [World.cell?, this]⟩

theorem refL {L A : Res} {w u : World} {F : Nat → Prop} {c : Nat} {s : LS} (h : Turns (Star (Star L (RefR c s)) A) w u F) : ∃ va vc, u.cell? ⟨c, 4, none⟩ = some (.slice va s.l.length vc) := by
  obtain ⟨F', ⟨F1, F2, ⟨F3, F4, _, ⟨_, sv, g, _⟩, _⟩, g2, hd, hF⟩, hf, hs⟩ := h
  obtain ⟨va, vc, rfl⟩ := ownsRow_shape g.2
  exact ⟨va, vc, (cells5 g.1).2.2.2.2.1⟩

theorem keysT {R A : Res} {w u : World} {F : Nat → Prop} {b : Nat} {s : LS} (h : Turns (Star (Star (LimR b s) R) A) w u F) : Calls Try.prog 22 #[.pointer (some ⟨b, 0, none⟩)] u fun e w' => e = .returned (.int .i64 s.l.length) ∧ u = w' := by
  obtain ⟨F', ⟨F1, F2, ⟨F3, F4, ⟨h1, m, sv, g, _⟩, _, _⟩, g2, hd, hF⟩, hf, hs⟩ := h
  exact keys_any b m sv s u g h1
end Go.Proofs.Ytmdallmbmjcdfaa.Rf
