/- The plain laws of LzGreedy: the pieces one by one, and the greatest of all distances. -/
import Derived.Test.YtinmfkbppgjcpaaLzP
set_option linter.unusedVariables false
namespace Go.Proofs.Ytinmfkbppgjcpaa.LzP

/-- what is left of the pieces are those from a place on -/
def Remn (g : Nat → Int) (n win k at' : Nat) : Prop := ∃ f, n - at' ≤ f ∧ (pieces g n win 4096).drop k = ps g n win 4096 f at'

theorem rest_zero (g : Nat → Int) (n win : Nat) : Remn g n win 0 0 := ⟨n, by omega, rfl⟩

theorem ps_end (g : Nat → Int) (n win dep f at' : Nat) (h : n ≤ at') : ps g n win dep f at' = [] := by
  cases f with
  | zero => rfl
  | succ f => unfold ps; rw [if_neg (by omega)]

theorem rest_step {g : Nat → Int} {n win k at' : Nat} (h : Remn g n win k at') (ha : at' ≤ n) (hk : k < (pieces g n win 4096).length) :
    at' < n ∧ (ints (pieces g n win 4096))[k]? = some (((pc g n win 4096 at').1 : Int), ((pc g n win 4096 at').2 : Int), byt g at' (pc g n win 4096 at')) ∧
    at' + max 1 (pc g n win 4096 at').1 ≤ n ∧ Remn g n win (k + 1) (at' + max 1 (pc g n win 4096 at').1) := by
  obtain ⟨f, hf, hd⟩ := h
  have hlt : at' < n := by
    rcases Nat.lt_or_ge at' n with h | h
    · exact h
    · rw [ps_end g n win 4096 f at' h] at hd
      have := congrArg List.length hd
      simp at this; omega
  obtain ⟨f, rfl⟩ : ∃ f', f = f' + 1 := ⟨f - 1, by omega⟩
  unfold ps at hd
  rw [if_pos hlt] at hd
  have hfit := (pc_fits g n win 4096 at').2.1
  refine ⟨hlt, ?_, by omega, f, by omega, ?_⟩
  · have h0 := congrArg (fun l => l[0]?) hd
    simp only [List.getElem?_drop, Nat.add_zero, List.getElem?_cons_zero] at h0
    simp [ints, h0]
  · have h1 := congrArg (List.drop 1) hd
    simpa [List.drop_drop, Nat.add_comm] using h1

theorem rest_end {g : Nat → Int} {n win k at' : Nat} (h : Remn g n win k at') (ha : at' ≤ n) (hk : (pieces g n win 4096).length ≤ k) : at' = n := by
  obtain ⟨f, hf, hd⟩ := h
  rcases Nat.lt_or_ge at' n with hlt | h
  · obtain ⟨f, rfl⟩ : ∃ f', f = f' + 1 := ⟨f - 1, by omega⟩
    unfold ps at hd
    rw [if_pos hlt, List.drop_eq_nil_of_le hk] at hd
    cases hd
  · omega

theorem most_step (g : Nat → Int) (n j d : Nat) (h : 1 ≤ d) : most g n j d = max (most g n j (d - 1)) (al g n (j - d) j) := by
  obtain ⟨d, rfl⟩ : ∃ e, d = e + 1 := ⟨d - 1, by omega⟩
  rfl

theorem most_le (g : Nat → Int) (n j : Nat) : ∀ d, most g n j d ≤ 258
  | 0 => by simp [most]
  | d + 1 => by
    have := most_le g n j d
    have := (al_le g n (j - (d + 1)) j).1
    unfold most; omega
end Go.Proofs.Ytinmfkbppgjcpaa.LzP
