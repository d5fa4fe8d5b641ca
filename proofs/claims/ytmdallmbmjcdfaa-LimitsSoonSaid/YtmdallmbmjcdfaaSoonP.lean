/- The plain law of LimitsSoon: two limiters, one of which sees one key alone. -/
import Derived.Test.YtmdallmbmjcdfaaBoundP
set_option linter.unusedVariables false
namespace Go.Proofs.Ytmdallmbmjcdfaa.Lm

structure Sn (a b : LS) (clk : Int) (cnt : Nat) : Prop where
  oka : Ok a
  okb : Ok b
  rt : b.rate = a.rate
  fl : b.full = a.full
  ka1 : a.keys = 1000
  kb1 : b.keys = 1000
  na : a.now ≤ clk
  nb : b.now ≤ clk
  c0 : 0 ≤ clk
  c1 : clk ≤ 549755813888
  same : find b.l ka = find a.l ka
  la : a.l.length ≤ cnt
  lb : b.l.length ≤ cnt

theorem clock_at {s : LS} {now : Int} (h : s.now ≤ now) (hl : now ≤ last) : clock s now = now := by unfold clock; omega

theorem find_allow {s : LS} (h : Ok s) (k x : ByteArray) (now : Int) (hlt : (s.l.length : Int) < s.keys) :
    find (allow s k now).l x = if x = k then some (max (left s k now - 1) 0, clock s now) else find s.l x := by
  have hr : roomed s k = s.l := by unfold roomed; rw [if_neg]; omega
  show find (drop (roomed s k) k ++ [(k, max (left s k now - 1) 0, clock s now)]) x = _
  rw [hr, find_append, find_one]
  by_cases hx : x = k
  · subst hx; rw [find_drop_same h.apart]; simp
  · rw [if_neg (fun q => hx q.symm), if_neg hx, find_drop_other h.apart hx]; simp

theorem length_allow {s : LS} (h : Ok s) (k : ByteArray) (now : Int) (hlt : (s.l.length : Int) < s.keys) : (allow s k now).l.length ≤ s.l.length + 1 := by
  have hr : roomed s k = s.l := by unfold roomed; rw [if_neg]; omega
  show (drop (roomed s k) k ++ [_]).length ≤ _
  rw [hr]
  have := (drop_sub s.l k).length_le
  simp; omega

theorem Sn.left {a b : LS} {clk now : Int} {cnt : Nat} (h : Sn a b clk cnt) (h1 : clk ≤ now) (h2 : now ≤ last) : left b ka now = left a ka now := by
  have e1 : clock a now = now := clock_at (by have := h.na; omega) h2
  have e2 : clock b now = now := clock_at (by have := h.nb; omega) h2
  unfold Lm.left
  rw [h.same, e1, e2, h.rt, h.fl]

theorem Sn.other {a b : LS} {clk now : Int} {cnt : Nat} (h : Sn a b clk cnt) (k : ByteArray) (hk : k ≠ ka) (h1 : clk ≤ now) (h2 : now ≤ 549755813888) (hc : cnt < 900) : Sn (allow a k now) b now (cnt + 1) := by
  have hlt : (a.l.length : Int) < a.keys := by have := h.la; have := h.ka1; omega
  have e1 : clock a now = now := clock_at (by have := h.na; omega) (by unfold last; omega)
  refine ⟨allow_ok h.oka k now, h.okb, h.rt, h.fl, h.ka1, h.kb1, by show clock a now ≤ now; omega, by have := h.nb; omega, by have := h.c0; omega, h2, ?_, ?_, by have := h.lb; omega⟩
  · rw [find_allow h.oka k ka now hlt, if_neg (fun q => hk q.symm)]; exact h.same
  · have := length_allow h.oka k now hlt; have := h.la; omega

theorem Sn.both {a b : LS} {clk now : Int} {cnt : Nat} (h : Sn a b clk cnt) (h1 : clk ≤ now) (h2 : now ≤ 549755813888) (hc : cnt < 900) : Sn (allow a ka now) (allow b ka now) now (cnt + 1) := by
  have hlt : (a.l.length : Int) < a.keys := by have := h.la; have := h.ka1; omega
  have hlt' : (b.l.length : Int) < b.keys := by have := h.lb; have := h.kb1; omega
  have e1 : clock a now = now := clock_at (by have := h.na; omega) (by unfold last; omega)
  have e2 : clock b now = now := clock_at (by have := h.nb; omega) (by unfold last; omega)
  refine ⟨allow_ok h.oka ka now, allow_ok h.okb ka now, h.rt, h.fl, h.ka1, h.kb1, by show clock a now ≤ now; omega, by show clock b now ≤ now; omega, by have := h.c0; omega, h2, ?_, ?_, ?_⟩
  · rw [find_allow h.oka ka ka now hlt, find_allow h.okb ka ka now hlt', if_pos rfl, if_pos rfl, e1, e2, h.left h1 (by unfold last; omega)]
  · have := length_allow h.oka ka now hlt; have := h.la; omega
  · have := length_allow h.okb ka now hlt'; have := h.lb; omega

/-- who was refused is allowed a second later -/
theorem Sn.soon {a b : LS} {clk now : Int} {cnt : Nat} (h : Sn a b clk cnt) (h1 : clk ≤ now) (h2 : now ≤ 549755813888) (hc : cnt < 900) (hr : ¬ 0 < Lm.left a ka now) : 1 ≤ Lm.left (allow a ka now) ka (now + 1) := by
  have hlt : (a.l.length : Int) < a.keys := by have := h.la; have := h.ka1; omega
  have e1 : clock a now = now := clock_at (by have := h.na; omega) (by unfold last; omega)
  have e2 : clock (allow a ka now) (now + 1) = now + 1 := clock_at (by show clock a now ≤ now + 1; omega) (by unfold last; omega)
  have hf := find_allow h.oka ka ka now hlt
  rw [if_pos rfl, e1] at hf
  have hl : Lm.left (allow a ka now) ka (now + 1) = min a.full (max (Lm.left a ka now - 1) 0 + min (now + 1 - now) a.full * a.rate) := by
    unfold Lm.left
    rw [hf, e2]
    rfl
  have hf1 := h.oka.full1
  have hr1 := h.oka.rate1
  have e3 : min (now + 1 - now) a.full = 1 := by omega
  rw [hl, e3]
  omega
end Go.Proofs.Ytmdallmbmjcdfaa.Lm
