/- The plain answers: which server, which location. -/
import Derived.Test.YtlaoeciflifggaaEq
set_option linter.unusedVariables false
namespace Go.Proofs.Ytlaoeciflifggaa.Rt
open Go.RowKit
open Go.Lib hiding intOf

structure Loc where
  pre : ByteArray
  kind : Int
  root : ByteArray
  index : ByteArray
  gzip : Int
  expires : Int
  up : ByteArray
  cache : Bool
  rate : Int
  burst : Int
  status : Int
  to : ByteArray

structure Srv where
  names : List ByteArray
  dflt : Bool
  locs : List Loc

structure Ups where
  name : ByteArray
  peers : List (Int × Int)
  timeout : Int
  retries : Int

/-- the first with the greatest rank above what was: its place (counted from i on) and its rank -/
def bst : List Nat → Nat → Int × Nat → Int × Nat
  | [], _, p => p
  | n :: l, i, p => bst l (i + 1) (if p.2 < n then ((i : Int), n) else p)

theorem bst_snoc : ∀ (l : List Nat) (n i : Nat) (p : Int × Nat), bst (l ++ [n]) i p = if (bst l i p).2 < n then (((i + l.length : Nat) : Int), n) else bst l i p
  | [], n, i, p => rfl
  | m :: l, n, i, p => by
    have h := bst_snoc l n (i + 1) (if p.2 < m then ((i : Int), m) else p)
    rw [show i + 1 + l.length = i + (m :: l).length by simp; omega] at h
    exact h

def best (l : List Nat) : Int := (bst l 0 (-1, 0)).1

/-- what holds of the best: none (and none has a rank), or the first of the greatest -/
theorem bst_spec (l : List Nat) : (bst l 0 (-1, 0) = (-1, 0) ∧ ∀ n ∈ l, n = 0) ∨
    ∃ k n : Nat, (bst l 0 (-1, 0)) = ((k : Int), n) ∧ l[k]? = some n ∧ 0 < n ∧ ∀ j m, l[j]? = some m → m ≤ n ∧ (j < k → m < n) := by
  have key : ∀ r : List Nat, ∀ l : List Nat, l = r.reverse → (bst l 0 (-1, 0) = (-1, 0) ∧ ∀ n ∈ l, n = 0) ∨
    ∃ k n : Nat, (bst l 0 (-1, 0)) = ((k : Int), n) ∧ l[k]? = some n ∧ 0 < n ∧ ∀ j m, l[j]? = some m → m ≤ n ∧ (j < k → m < n) := by
    intro r
    induction r with
    | nil => intro l hl; subst hl; exact .inl ⟨rfl, by simp⟩
    | cons x r ih =>
      intro l hl
      simp only [List.reverse_cons] at hl
      subst hl
      have ih := ih r.reverse rfl
      generalize r.reverse = q at ih ⊢
      rw [bst_snoc]
      rcases ih with ⟨h1, h2⟩ | ⟨k, n, h1, h2, h3, h4⟩
      · rw [h1]
        by_cases hx : 0 < x
        · rw [if_pos hx]
          refine .inr ⟨0 + q.length, x, rfl, by simp, hx, fun j m hj => ?_⟩
          by_cases hjq : j < q.length
          · rw [List.getElem?_append_left hjq] at hj
            have := h2 m (List.mem_of_getElem? hj)
            omega
          · rw [List.getElem?_append_right (by omega)] at hj
            have : j - q.length = 0 := by
              rcases Nat.eq_zero_or_pos (j - q.length) with h | h
              · exact h
              · rw [List.getElem?_eq_none (by simp; omega)] at hj; cases hj
            rw [this] at hj; simp at hj; omega
        · rw [if_neg hx]
          refine .inl ⟨rfl, fun n hn => ?_⟩
          rcases List.mem_append.1 hn with h | h
          · exact h2 n h
          · simp at h; omega
      · rw [h1]
        have hkq : k < q.length := (List.getElem?_eq_some_iff.1 h2).1
        by_cases hx : n < x
        · rw [if_pos hx]
          refine .inr ⟨0 + q.length, x, rfl, by simp, by omega, fun j m hj => ?_⟩
          by_cases hjq : j < q.length
          · rw [List.getElem?_append_left hjq] at hj
            have := h4 j m hj
            omega
          · rw [List.getElem?_append_right (by omega)] at hj
            have : j - q.length = 0 := by
              rcases Nat.eq_zero_or_pos (j - q.length) with h | h
              · exact h
              · rw [List.getElem?_eq_none (by simp; omega)] at hj; cases hj
            rw [this] at hj; simp at hj; omega
        · rw [if_neg hx]
          refine .inr ⟨k, n, rfl, by rw [List.getElem?_append_left hkq]; exact h2, h3, fun j m hj => ?_⟩
          by_cases hjq : j < q.length
          · rw [List.getElem?_append_left hjq] at hj
            exact h4 j m hj
          · rw [List.getElem?_append_right (by omega)] at hj
            have : j - q.length = 0 := by
              rcases Nat.eq_zero_or_pos (j - q.length) with h | h
              · exact h
              · rw [List.getElem?_eq_none (by simp; omega)] at hj; cases hj
            rw [this] at hj; simp at hj; omega
  have := key l.reverse l (by simp)
  exact this

theorem bst_bd (l : List Nat) : -1 ≤ (bst l 0 (-1, 0)).1 ∧ (bst l 0 (-1, 0)).1 < l.length ∧ ((bst l 0 (-1, 0)).1 < 0 ↔ (bst l 0 (-1, 0)).2 = 0) := by
  rcases bst_spec l with ⟨h1, h2⟩ | ⟨k, n, h1, h2, h3, h4⟩
  · rw [h1]; exact ⟨by simp, by show (-1 : Int) < l.length; omega, by simp⟩
  · rw [h1]
    have hkq : k < l.length := (List.getElem?_eq_some_iff.1 h2).1
    exact ⟨by show (-1 : Int) ≤ (k : Int); omega, by show (k : Int) < l.length; omega, by show ((k : Int) < 0 ↔ n = 0); omega⟩

/-- how much a location answers a path -/
def rk (path : ByteArray) (l : Loc) : Nat := if hp path l.pre = true then 1 + l.pre.size else 0

theorem hp_size {s p : ByteArray} (h : hp s p = true) : p.size ≤ s.size := by
  unfold hp Lib.hasPrefix at h
  rw [List.isPrefixOf_iff_prefix] at h
  have := h.length_le
  rw [Lib.size_eq, Lib.size_eq]; exact this

theorem rk_le (path : ByteArray) (l : Loc) : rk path l ≤ 1 + path.size := by
  unfold rk
  split
  · have := hp_size ‹_›; omega
  · omega

def locAt (path : ByteArray) (L : List Loc) : Int := best (L.map (rk path))

/-- the greatest pattern of names that a host meets -/
def pmax (host : ByteArray) : List ByteArray → Nat
  | [] => 0
  | n :: l => max (pat n host) (pmax host l)

theorem pmax_snoc (host : ByteArray) : ∀ (l : List ByteArray) (n : ByteArray), pmax host (l ++ [n]) = max (pmax host l) (pat n host)
  | [], n => by simp [pmax]
  | m :: l, n => by
    simp only [List.cons_append, pmax]
    rw [pmax_snoc host l n]; omega

def named (host : ByteArray) (s : Srv) : Bool := s.names.any fun n => eqf n host
def rdf (s : Srv) : Nat := if s.dflt then 1 else 0

/-- which server answers a host: -1: none is found -/
def srvI (host : ByteArray) (L : List Srv) : Int :=
  match L.findIdx? (named host) with
  | some i => i
  | none => if best (L.map fun s => pmax host s.names) < 0 then best (L.map rdf) else best (L.map fun s => pmax host s.names)

def srvOf (host : ByteArray) (L : List Srv) : Int × Int := if L.length = 0 then (0, 61) else (max (srvI host L) 0, 0)
end Go.Proofs.Ytlaoeciflifggaa.Rt
