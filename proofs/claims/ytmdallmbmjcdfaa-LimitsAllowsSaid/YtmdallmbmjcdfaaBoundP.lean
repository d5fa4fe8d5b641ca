/- The plain law of LimitsBound: in any stretch of time one key is allowed no more often than its bucket holds, and what it gains in that time. -/
import Derived.Test.YtmdallmbmjcdfaaPlain
set_option linter.unusedVariables false
namespace Go.Proofs.Ytmdallmbmjcdfaa.Lm

def ka : ByteArray := { data := #[97] }

structure Bd (rate full : Int) (s : LS) (now : Int) (ts : List Int) : Prop where
  ok : Ok s
  rt : s.rate = rate
  fl : s.full = full
  ks : s.keys = 1
  nw : s.now ≤ now
  n0 : 0 ≤ now
  each : ∀ t ∈ ts, 0 ≤ t ∧ t ≤ now
  pairs : ∀ (i k : Nat) (t u : Int), i ≤ k → ts[i]? = some t → ts[k]? = some u → (k : Int) - i + 1 ≤ full + rate * (u - t)
  bucket : (s.l = [] ∧ ts = []) ∨ ∃ n a, s.l = [(ka, n, a)] ∧ 0 ≤ n ∧ ∀ (i : Nat) (t : Int), ts[i]? = some t → ((ts.length : Int) - i) + n ≤ full + rate * (a - t)

theorem left_le {s : LS} (h : Ok s) {n a : Int} (hl : s.l = [(ka, n, a)]) (now : Int) : left s ka now ≤ s.full ∧ left s ka now ≤ n + s.rate * (clock s now - a) := by
  have hf : find s.l ka = some (n, a) := by rw [hl]; simp [find]
  have hm := h.each _ (find_mem hf)
  simp only at hm
  have hc := (clock_bd h now).2.1
  have hr := h.rate1
  have hl : left s ka now = min s.full (n + min (clock s now - a) s.full * s.rate) := by simp [left, hf]
  refine ⟨(left_bd h ka now).2, ?_⟩
  have h1 : min (clock s now - a) s.full * s.rate ≤ (clock s now - a) * s.rate := Int.mul_le_mul_of_nonneg_right (Int.min_le_left _ _) (by omega)
  rw [hl, Int.mul_comm s.rate]
  omega

theorem Bd.step {rate full : Int} {s : LS} {now0 now : Int} {ts : List Int} (h : Bd rate full s now0 ts) (hn : now0 ≤ now) (hl : now ≤ last) :
    Bd rate full (allow s ka now) now (if 0 < left s ka now then ts ++ [now] else ts) := by
  have hok := h.ok
  have hnow := h.nw
  have h0 := h.n0
  have hck : clock s now = now := by unfold clock; omega
  have hlb := left_bd hok ka now
  have hf1 := hok.full1
  have hr1 := hok.rate1
  have hrt := h.rt
  have hfl := h.fl
  have hrr : roomed s ka = s.l ∨ s.l = [] ∨ ∃ n a, s.l = [(ka, n, a)] := by
    rcases h.bucket with ⟨q, _⟩ | ⟨n, a, q, _⟩
    · exact .inr (.inl q)
    · exact .inr (.inr ⟨n, a, q⟩)
  have hdl : drop (roomed s ka) ka = [] := by
    rcases h.bucket with ⟨q, _⟩ | ⟨n, a, q, _⟩
    · have := (roomed_sub s ka)
      rw [q] at this
      rw [List.sublist_nil.1 this]
      rfl
    · have : roomed s ka = s.l := by
        unfold roomed
        rw [if_neg]
        rintro ⟨e, _⟩
        rw [q] at e
        simp [find] at e
      rw [this, q]
      simp [drop]
  have hl' : (allow s ka now).l = [(ka, max (left s ka now - 1) 0, now)] := by
    simp only [allow]
    rw [hdl, hck]; rfl
  refine ⟨allow_ok hok ka now, h.rt, h.fl, h.ks, ?_, by omega, ?_, ?_, ?_⟩
  · show clock s now ≤ now
    omega
  · intro t ht
    have : t ∈ ts ∨ t = now := by
      split at ht
      · rcases List.mem_append.1 ht with ht | ht
        · exact .inl ht
        · simp at ht; exact .inr ht
      · exact .inl ht
    rcases this with ht | rfl
    · have := h.each t ht; omega
    · omega
  · -- the pairs
    intro i k t u hik hi hk
    by_cases hp : 0 < left s ka now
    · rw [if_pos hp] at hi hk
      by_cases hkl : k < ts.length
      · rw [List.getElem?_append_left hkl] at hk
        rw [List.getElem?_append_left (by omega)] at hi
        exact h.pairs i k t u hik hi hk
      · have hk2 : k = ts.length := by
          have := (List.getElem?_eq_some_iff.1 hk).1
          simp at this; omega
        subst hk2
        simp at hk
        subst hk
        by_cases hil : i < ts.length
        · rw [List.getElem?_append_left hil] at hi
          rcases h.bucket with ⟨_, q⟩ | ⟨n, a, q, hn0, hb⟩
          · rw [q] at hil; simp at hil
          · have h1 := hb i t hi
            have h2 := (left_le hok q now).2
            rw [hck, hrt] at h2
            have e : rate * (now - t) = rate * (a - t) + rate * (now - a) := by rw [← Int.mul_add]; congr 1; omega
            omega
        · have hi2 : i = ts.length := by omega
          subst hi2
          simp at hi
          subst hi
          simp
          omega
    · rw [if_neg hp] at hi hk
      exact h.pairs i k t u hik hi hk
  · right
    refine ⟨_, _, hl', by omega, ?_⟩
    intro i t hi
    by_cases hp : 0 < left s ka now
    · rw [if_pos hp] at hi ⊢
      have e2 : max (left s ka now - 1) 0 = left s ka now - 1 := by omega
      rw [e2]
      by_cases hil : i < ts.length
      · rw [List.getElem?_append_left hil] at hi
        rcases h.bucket with ⟨_, q⟩ | ⟨n, a, q, hn0, hb⟩
        · rw [q] at hil; simp at hil
        · have h1 := hb i t hi
          have h2 := (left_le hok q now).2
          rw [hck, hrt] at h2
          have e : rate * (now - t) = rate * (a - t) + rate * (now - a) := by rw [← Int.mul_add]; congr 1; omega
          simp
          omega
      · have hi2 : i = ts.length := by
          have := (List.getElem?_eq_some_iff.1 hi).1
          simp at this; omega
        subst hi2
        simp at hi
        subst hi
        simp
        omega
    · rw [if_neg hp] at hi ⊢
      have e2 : max (left s ka now - 1) 0 = 0 := by omega
      rw [e2]
      rcases h.bucket with ⟨_, q⟩ | ⟨n, a, q, hn0, hb⟩
      · rw [q] at hi; simp at hi
      · have h1 := hb i t hi
        have hm := hok.each (ka, n, a) (by rw [q]; simp)
        simp only at hm
        have e : rate * (now - t) = rate * (a - t) + rate * (now - a) := by rw [← Int.mul_add]; congr 1; omega
        have : 0 ≤ rate * (now - a) := Int.mul_nonneg (by omega) (by omega)
        omega
end Go.Proofs.Ytmdallmbmjcdfaa.Lm
