/- append([]byte{}, b...): a copy of a text that came in. -/
import Derived.Test.YtinmfkbppgjcpaaW3
set_option linter.unusedVariables false
namespace Go.Proofs.Ytinmfkbppgjcpaa.Lz
open Go.RowKit LzP

theorem txt_now {w : World} {ad : Addr} {n : Nat} {g : Nat → Int} (h : Txt w (some ad) n g) : ∀ j u, (bytv g n)[j]? = some u → w.cell? (ad.add j) = some u := by
  intro j u hj
  have hl : j < n := by have := (List.getElem?_eq_some_iff.1 hj).1; rwa [bytv_length] at this
  rw [bytv_get g n j hl] at hj
  cases hj
  obtain ⟨b, off, e, hb, hc⟩ := h j hl
  cases e
  rw [add_lit]
  exact hc

theorem own_txt {w : World} {base n c gb : Nat} {g : Nat → Int} (h : w.ownsRow base 5 1 (.slice (some ⟨gb, 0, none⟩) n c) n (bytv g n)) : Txt w (some ⟨gb, 0, none⟩) n g := fun i hi =>
  ⟨gb, 0, rfl, (h.lt gb rfl).2, by rw [Nat.zero_add]; exact own_cell h (bytv_get g n i hi)⟩

theorem wpList_copy {w : World} {ops : Array Oper} {rest : List Oper} {o : Oper} {act : Act} {Q : Exit → Act → World → Prop} (hgd : o.guard = none) (s x : Operand)
    (ho : o.op = .call { callee := .builtin .append, args := #[s, x], argTypes := #[22, 22] }) (base eb : Nat) (hs : act.eval s = .slice (some ⟨eb, 0, none⟩) 0 0) (he : w.heap[eb]? = some (.cells #[] 5 (0, 0))) (hb : base ≤ eb)
    (a : Option Addr) (n cap : Nat) (g : Nat → Int) (hx : act.eval x = .slice a n cap) (ht : Txt w a n g) (hnil : a = none → n = 0 ∧ cap = 0) (hn : n ≤ 140737488351232)
    (h : ∀ gb c w', w'.ownsRow base 5 1 (.slice (some ⟨gb, 0, none⟩) n c) n (bytv g n) → Below base w w' → n ≤ c → c ≤ maxLen → wpList Try.prog ops Q rest (act.put o.dst (.slice (some ⟨gb, 0, none⟩) n c)) w') : wpList Try.prog ops Q (o :: rest) act w := by
  obtain ⟨i0, hi, hz0, hz1, hz2⟩ := info_parts info5
  have hlt : eb < w.heap.size := (Array.getElem?_eq_some_iff.1 he).1
  cases a with
  | none =>
    obtain ⟨rfl, rfl⟩ := hnil rfl
    refine wpList_append_own_none hgd s x 22 ho base 5 i0 1 Try.underlying22 hi _ 0 [] hs (own_empty he hb) hx ?_
    refine h eb 0 w ?_ (Below.refl _ _) (Nat.le_refl _) (by simp)
    have := own_empty (base := base) (e := 5) (size := 1) he hb
    simpa [bytv, txt] using this
  | some ad =>
    refine wpList_append_own_at _ hgd s x 22 ho base 5 i0 (.int .u8 0) 1 1 Try.underlying22 hi hz0 hz1 hz2 rfl (by decide) _ 0 [] hs (own_empty he hb) ad n cap (bytv g n) hx (by rw [bytv_length]; omega) (txt_now ht) (bytv_one _ _) (by unfold maxLen; omega) (by omega) (by omega) ?_
    intro v1 w1 hown hgrow hiff _
    rw [Nat.zero_add, List.nil_append] at hown
    obtain ⟨gb, c, rfl, h1, h2⟩ : ∃ gb c, v1 = .slice (some ⟨gb, 0, none⟩) n c ∧ n ≤ c ∧ c ≤ maxLen := by
      rcases hown.2 with ⟨e, _⟩ | ⟨gb, c, cur, e, _, _, h1, h2, _⟩
      · have := (hiff.1 e).1; cases this
      · exact ⟨gb, c, e, h1, h2⟩
    exact h gb c w1 hown ((Below.refl base w).grown hgrow (by omega) (fun k hk => by cases hk; exact hb)) h1 h2
end Go.Proofs.Ytinmfkbppgjcpaa.Lz
