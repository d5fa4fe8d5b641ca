/- The plain laws of RouteNames: great and small letters do not matter; who has the name itself is found. -/
import Derived.Test.YtlaoeciflifggaaFd
set_option linter.unusedVariables false
namespace Go.Proofs.Ytlaoeciflifggaa.Rt
open Go.RowKit
open Go.Lib hiding intOf

theorem eqf_congr {h b : ByteArray} (e : low h = low b) (n : ByteArray) : eqf n h = eqf n b := by unfold eqf; rw [e]
theorem low_data (s : ByteArray) : (low s).data.toList = s.data.toList.map lowB := rfl
theorem low_extract (s : ByteArray) (a b : Nat) : low (s.extract a b) = (low s).extract a b := by
  apply ByteArray.ext
  apply Array.toList_inj.1
  rw [Lib.extract_data, low_data, low_data, Lib.extract_data, List.map_take, List.map_drop]
theorem tail_congr {h b : ByteArray} (e : low h = low b) (x : ByteArray) : low (tailOf h x) = low (tailOf b x) := by
  have hs : h.size = b.size := by rw [← low_size h, ← low_size b, e]
  unfold tailOf
  rw [low_extract, low_extract, e, hs]
theorem pat_congr {h b : ByteArray} (e : low h = low b) (n : ByteArray) : pat n h = pat n b := by
  have hs : h.size = b.size := by rw [← low_size h, ← low_size b, e]
  have ht : eqf (tailOf h (rest1 n)) (rest1 n) = eqf (tailOf b (rest1 n)) (rest1 n) := by unfold eqf; rw [tail_congr e]
  unfold pat; rw [hs, ht]
theorem named_congr {h b : ByteArray} (e : low h = low b) : named h = named b := by
  funext s
  unfold named
  congr 1
  funext n
  exact eqf_congr e n
theorem pmax_congr {h b : ByteArray} (e : low h = low b) : ∀ l, pmax h l = pmax b l
  | [] => rfl
  | n :: l => by simp only [pmax]; rw [pat_congr e, pmax_congr e l]
theorem srvOf_congr {h b : ByteArray} (e : eqf h b = true) (L : List Srv) : srvOf h L = srvOf b L := by
  have e := of_decide_eq_true e
  have hp : (fun s : Srv => pmax h s.names) = fun s => pmax b s.names := by funext s; exact pmax_congr e _
  unfold srvOf srvI
  rw [named_congr e, hp]

theorem eqf_self (h : ByteArray) : eqf h h = true := by unfold eqf; simp
/-- who has the host's name itself is found, or one ahead of it -/
theorem srvN_le {host : ByteArray} {L : List Srv} {i k : Nat} {s : Srv} {n : ByteArray} (hs : L[i]? = some s) (hn : s.names[k]? = some n) (e : n = host) : srvN host L ≤ i := by
  subst e
  have hnm := named_some (host := n) hn (eqf_self n)
  unfold srvN srvI
  cases h : L.findIdx? (named n) with
  | none =>
    rw [List.findIdx?_eq_none_iff] at h
    rw [h s (List.mem_of_getElem? hs)] at hnm; cases hnm
  | some j =>
    rw [List.findIdx?_eq_some_iff_getElem] at h
    obtain ⟨hj, _, h2⟩ := h
    show (j : Int).toNat ≤ i
    rcases Nat.lt_or_ge i j with hl | hl
    · have := h2 i hl
      have hi := (List.getElem?_eq_some_iff.1 hs)
      obtain ⟨hi1, hi2⟩ := hi
      rw [hi2] at this
      exact absurd hnm this
    · omega
end Go.Proofs.Ytlaoeciflifggaa.Rt
