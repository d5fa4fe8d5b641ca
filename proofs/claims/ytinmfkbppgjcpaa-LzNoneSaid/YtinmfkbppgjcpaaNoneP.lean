/- The plain laws of LzNone: a number into 0 .. 1999, and how many pieces a run of one byte has. -/
import Derived.Test.YtinmfkbppgjcpaaW7
set_option linter.unusedVariables false
namespace Go.Proofs.Ytinmfkbppgjcpaa.Lz
open Go.RowKit LzP

theorem mod_zero_in (n md : Int) (h2 : 1 ≤ md) (h3 : md ≤ 100000) : ∃ N : Nat, (wrap64 (n.tmod md + md)).tmod md = (N : Int) ∧ (N : Int) ≤ md - 1 := by
  have a1 := Int.tmod_lt_of_pos n (show 0 < md by omega)
  have a2 := Int.lt_tmod_of_pos n (show 0 < md by omega)
  rw [wrap_in (x := n.tmod md + md) (by omega) (by omega)]
  have b1 := Int.tmod_lt_of_pos (n.tmod md + md) (show 0 < md by omega)
  have b2 := Int.tmod_nonneg md (show 0 ≤ n.tmod md + md by omega)
  exact ⟨((n.tmod md + md).tmod md).toNat, by omega, by omega⟩

theorem run_ps (c : Int) (n window : Nat) (hw : 1 ≤ window) (hn : 1 ≤ n) (f : Nat) (hf : n - 1 ≤ f) :
    258 * ((ps (fun _ => c) n window 1 (f + 1) 0).length - 1) ≤ (n - 1) + 2 * 258 ∧ ∀ i p, 0 < i → (ps (fun _ => c) n window 1 (f + 1) 0)[i]? = some p → 0 < p.1 → p.2.1 = 1 := by
  unfold ps
  rw [if_pos (by omega), pc_run0]
  have h := ps_run (fun _ => c) c (fun _ => rfl) n window hw f 1 (Nat.le_refl _) hf
  refine ⟨by simpa using h.1, fun i p hi hp => ?_⟩
  obtain ⟨i, rfl⟩ : ∃ j, i = j + 1 := ⟨i - 1, by omega⟩
  refine h.2 p (List.mem_of_getElem? (i := i) ?_)
  simpa using hp

theorem run_few (L n : Nat) (h : 258 * L ≤ (n - 1) + 2 * 258) : (L : Int) + 1 ≤ 2 + (n : Int) / 258 + 2 := by omega
end Go.Proofs.Ytinmfkbppgjcpaa.Lz
