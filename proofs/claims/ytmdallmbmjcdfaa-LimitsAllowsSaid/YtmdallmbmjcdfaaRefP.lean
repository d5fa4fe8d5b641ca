/- The plain law of LimitsAllows: what the reference reckons is what the limiter reckons. -/
import Derived.Test.YtmdallmbmjcdfaaPlain
set_option linter.unusedVariables false
namespace Go.Proofs.Ytmdallmbmjcdfaa.Lm

theorem ref_clock {s : LS} (h : Ok s) (now : Int) : max s.now (min (max now 0) 1099511627776) = clock s now := by
  have := h.now1
  unfold clock last
  omega

theorem ref_big {s : LS} (h : Ok s) {k : ByteArray} {n a : Int} (hf : find s.l k = some (n, a)) (now : Int) (hq : s.full / s.rate < clock s now - a) : left s k now = s.full := by
  have hm := h.each _ (find_mem hf)
  simp only at hm
  have hr := h.rate1
  have hfl := h.full1
  have hd := Int.mul_ediv_add_emod s.full s.rate
  have hmod := Int.emod_lt_of_pos s.full (show 0 < s.rate by omega)
  have hl : left s k now = min s.full (n + min (clock s now - a) s.full * s.rate) := by simp [left, hf]
  have h1 : s.full ≤ min (clock s now - a) s.full * s.rate := by
    rcases Int.le_total (clock s now - a) s.full with q | q
    · rw [Int.min_eq_left q]
      have : (s.full / s.rate + 1) * s.rate ≤ (clock s now - a) * s.rate := Int.mul_le_mul_of_nonneg_right (by omega) (by omega)
      rw [Int.add_mul, Int.mul_comm (s.full / s.rate)] at this
      omega
    · rw [Int.min_eq_right q]
      have : s.full * 1 ≤ s.full * s.rate := Int.mul_le_mul_of_nonneg_left (by omega) (by omega)
      omega
  rw [hl]
  omega

theorem ref_small {s : LS} (h : Ok s) {k : ByteArray} {n a : Int} (hf : find s.l k = some (n, a)) (now : Int) (hq : ¬ s.full / s.rate < clock s now - a) : left s k now = min s.full (n + (clock s now - a) * s.rate) ∧ clock s now - a ≤ s.full := by
  have hr := h.rate1
  have hfl := h.full1
  have hd : s.full / s.rate ≤ s.full := Int.ediv_le_self _ (by omega)
  have hl : left s k now = min s.full (n + min (clock s now - a) s.full * s.rate) := by simp [left, hf]
  rw [hl, Int.min_eq_left (show clock s now - a ≤ s.full by omega)]
  exact ⟨rfl, by omega⟩

/-- where a key's bucket lies -/
theorem find_pos {l : List Bk} {k : ByteArray} {v : Int × Int} (h : find l k = some v) : ∃ i, l[i]? = some (k, v) ∧ (∀ j, j < i → ∀ x, l[j]? = some x → x.1 ≠ k) ∧ drop l k = l.eraseIdx i := by
  induction l with
  | nil => simp [find] at h
  | cons x l ih =>
    by_cases hx : x.1 = k
    · have : x.2 = v := by simpa [find, List.find?_cons, hx] using h
      exact ⟨0, by subst hx; subst this; rfl, fun j hj => absurd hj (by omega), by simp [drop, hx]⟩
    · have h' : find l k = some v := by simpa [find, List.find?_cons, hx] using h
      obtain ⟨i, h1, h3, h4⟩ := ih h'
      refine ⟨i + 1, by simpa using h1, ?_, by simpa [drop, List.eraseP_cons, hx] using h4⟩
      intro j hj y hy
      cases j with
      | zero => simp at hy; subst hy; exact hx
      | succ j => exact h3 j (by omega) y (by simpa using hy)

end Go.Proofs.Ytmdallmbmjcdfaa.Lm
