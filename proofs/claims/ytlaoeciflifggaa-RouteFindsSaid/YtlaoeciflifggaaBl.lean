/- The best location: the program's and the document's. -/
import Derived.Test.YtlaoeciflifggaaMem
set_option linter.unusedVariables false
namespace Go.Proofs.Ytlaoeciflifggaa.Rt
open Go.RowKit
open Go.Lib hiding intOf

theorem map_take_snoc {α β : Type} (f : α → β) (L : List α) (k : Nat) (x : α) (h : L[k]? = some x) : (L.take (k + 1)).map f = (L.take k).map f ++ [f x] := by
  rw [List.take_add_one, h]; simp

/-- the state of the search behind k of a list -/
def stt (l : List Nat) (k : Nat) : Int × Nat := bst (l.take k) 0 (-1, 0)
theorem stt_zero (l : List Nat) : stt l 0 = (-1, 0) := by simp [stt, bst]
theorem stt_end (l : List Nat) (k : Nat) (h : l.length ≤ k) : stt l k = bst l 0 (-1, 0) := by unfold stt; rw [List.take_of_length_le h]
theorem stt_step (l : List Nat) (k n : Nat) (h : l[k]? = some n) : stt l (k + 1) = if (stt l k).2 < n then ((k : Int), n) else stt l k := by
  have hk : k < l.length := (List.getElem?_eq_some_iff.1 h).1
  unfold stt
  rw [List.take_add_one, h]
  simp only [Option.toList]
  rw [bst_snoc, List.length_take, show 0 + min k l.length = k by omega]
theorem stt_bd (l : List Nat) (k : Nat) (M : Nat) (hM : ∀ n ∈ l, n ≤ M) : -1 ≤ (stt l k).1 ∧ (stt l k).1 < k + 1 ∧ (stt l k).1 < l.length ∧ (stt l k).2 ≤ M := by
  have h := bst_bd (l.take k)
  have h2 := bst_spec (l.take k)
  unfold stt
  have hl : (l.take k).length ≤ k ∧ (l.take k).length ≤ l.length := by rw [List.length_take]; omega
  refine ⟨h.1, by omega, by omega, ?_⟩
  rcases h2 with ⟨h1, _⟩ | ⟨j, n, h1, h3, _⟩
  · rw [h1]; simp
  · rw [h1]
    exact hM n (List.mem_of_mem_take (List.mem_of_getElem? h3))

set_option maxHeartbeats 2000000 in
set_option maxRecDepth 100000 in
theorem bestLoc_any (path : ByteArray) (pb : Nat) (a : Option Addr) (c : Nat) (L : List Loc) (w : World) (hc : w.cell? ⟨pb, 0, none⟩ = some (.string path)) (hp1 : path.size ≤ 4611686018427387904) (hL : LocsAt w a L) (hlen : L.length ≤ 9223372036854775807) :
    Calls Try.prog 26 #[.slice a L.length c, .func (.func 27) #[] #[.pointer (some ⟨pb, 0, none⟩)]] w fun e w' => e = .returned (.int .i64 (locAt path L)) ∧ Below w.heap.size w w' := by
  have hML : ∀ n ∈ L.map (rk path), n ≤ 1 + path.size := fun n hn => by
    obtain ⟨l, _, rfl⟩ := List.mem_map.1 hn
    exact rk_le path l
  have hll : (L.map (rk path)).length = L.length := by simp
  obtain ⟨R, hR⟩ : ∃ R, R = L.map (rk path) := ⟨_, rfl⟩
  rw [← hR] at hML hll
  have hfin : locAt path L = (bst R 0 (-1, 0)).1 := by unfold locAt best; rw [hR]
  obtain ⟨N, hN⟩ : ∃ N, N = L.length := ⟨_, rfl⟩
  rw [← hN] at hlen hll ⊢
  have hpl := cell_lt hc
  have HC := Lib.hid hc
  have HL := Lib.hid hL
  have HM := Lib.hid hML
  have HF := Lib.hid hfin
  have HR := Lib.hid hR
  have HN := Lib.hid hN
  have HLL := Lib.hid hll
  clear hc hL hML hfin hR hN hll
  go_enter Try.func26, Try.ntmps26
  go_wp2_with fail
  go_loopw [5, 6, 12] (fun u v i wr => ∃ k : Nat, k ≤ N ∧ i = .int .i64 k ∧ u = .int .i64 (stt R k).1 ∧ v = .int .i64 (stt R k).2 ∧ Hid (Below w.heap.size w wr)) (fun _ _ i _ => N - (intOf i).toNat)
  case atStart => exact ⟨0, Nat.zero_le _, rfl, by rw [stt_zero], by rw [stt_zero]; rfl, Lib.hid (Below.refl _ _)⟩
  case round =>
    obtain ⟨k, hk, rfl, rfl, rfl, hbel⟩ := hrel
    have hbd := stt_bd R k _ HM.out
    by_cases hlt : k < N
    · obtain ⟨l, hl⟩ : ∃ l, L[k]? = some l := ⟨L[k]'(by have := HN.out; omega), List.getElem?_eq_getElem _⟩
      obtain ⟨b, off, rfl, hbl, c0, c1, c2, c3, c4, c5, c6, c7, c8, c9, c10, c11⟩ := LocsAt.get (HL.out.below hbel.out) hl
      have hst := stt_step R k (rk path l) (by rw [HR.out]; simp [hl])
      have hrl := rk_le path l
      have HST := Lib.hid hst
      have HHL := Lib.hid hl
      clear hst hl
      go_wp2_with fail
      refine (rankLoc_any path l pb _ ?_ hp1).mono ?_
      · exact cell_allocN ((hbel.out.cell (p := ⟨pb, 0, none⟩) hpl).trans HC.out) _ 0
      rintro e w' ⟨rfl, hb2⟩
      have HB2 := Lib.hid ((hbel.out.alloc hbel.out.size _).trans (hb2.mono (by have := hbel.out.size; simp; omega)))
      clear hb2 c0 c1 c2 c3 c4 c5 c6 c7 c8 c9 c10 c11
      by_cases hgt : (stt R k).2 < rk path l
      · have hst := HST.out
        rw [if_pos hgt] at hst
        have HS2 := Lib.hid hst
        clear hst
        generalize stt R k = p at *
        generalize rk path l = rr at *
        go_wp2
        go_roundw
        case rel => exact ⟨k + 1, by omega, by go_num, by rw [HS2.out], by rw [HS2.out], HB2⟩
        case measure => simp [intOf]; omega
      · have hst := HST.out
        rw [if_neg hgt] at hst
        have HS2 := Lib.hid hst
        clear hst
        generalize stt R k = p at *
        generalize rk path l = rr at *
        go_wp2
        go_roundw
        case rel => exact ⟨k + 1, by omega, by go_num, by rw [HS2.out], by rw [HS2.out], HB2⟩
        case measure => simp [intOf]; omega
    · obtain rfl : k = N := by omega
      have HE := Lib.hid (stt_end R k (by rw [HLL.out]; exact Nat.le_refl _))
      go_wp2
      go_ret
      exact ⟨by rw [HF.out, ← HE.out]; rfl, hbel.out⟩

/-- the answer of a location -/
def locOf (path : ByteArray) (L : List Loc) : Value := .tuple #[.int .i64 (max (locAt path L) 0), .bool (decide (0 ≤ locAt path L))]

theorem locAt_bd (path : ByteArray) (L : List Loc) : -1 ≤ locAt path L ∧ locAt path L < L.length := by
  have := bst_bd (L.map (rk path))
  unfold locAt best
  rw [List.length_map] at this
  omega

set_option maxHeartbeats 1000000 in
set_option maxRecDepth 100000 in
theorem location_any (path : ByteArray) (na la : Option Addr) (nn nc lc : Nat) (d : Bool) (L : List Loc) (w : World) (hp1 : path.size ≤ 4611686018427387904) (hL : LocsAt w la L) (hlen : L.length ≤ 9223372036854775807) :
    Calls Try.prog 13 #[.agg #[.slice na nn nc, .bool d, .slice la L.length lc], .string path] w fun e w' => e = .returned (locOf path L) ∧ Below w.heap.size w w' := by
  have hbd := locAt_bd path L
  unfold locOf
  have HL := Lib.hid hL
  clear hL
  go_enter Try.func13, Try.ntmps13
  go_wp2_with fail
  refine (bestLoc_any path (w.heap.size + 1) la lc L _ ?_ hp1 ?_ hlen).mono ?_
  · simp
  · exact HL.out.below (((Below.refl _ w).alloc (Nat.le_refl _) _).alloc (by simp) _)
  rintro e w1 ⟨rfl, hb1⟩
  have HB1 := Lib.hid ((((Below.refl _ w).alloc (Nat.le_refl _) _).alloc (by simp) _).trans (hb1.mono (by simp; omega)))
  clear hb1
  go_wp2
  go_ret2
  exact ⟨rfl, HB1.out⟩

/-- where the document's search stands: its place; none, or the place's rank is the greatest so far -/
def Atp (path : ByteArray) (L : List Loc) (p : Int × Nat) : Prop := (p.1 = -1 ∧ p.2 = 0) ∨ ∃ (j : Nat) (l : Loc), p.1 = j ∧ L[j]? = some l ∧ p.2 = 1 + l.pre.size

theorem atp_stt (path : ByteArray) (L : List Loc) (k : Nat) : Atp path L (stt (L.map (rk path)) k) := by
  unfold stt
  rcases bst_spec ((L.map (rk path)).take k) with ⟨h1, _⟩ | ⟨j, n, h1, h2, h3, _⟩
  · rw [h1]; exact .inl ⟨rfl, rfl⟩
  · rw [h1]
    have hjk : j < k := by
      have := (List.getElem?_eq_some_iff.1 h2).1
      rw [List.length_take] at this; omega
    rw [List.getElem?_take_of_lt hjk, List.getElem?_map] at h2
    cases hl : L[j]? with
    | none => rw [hl] at h2; cases h2
    | some l =>
      rw [hl] at h2
      simp only [Option.map_some, Option.some.injEq] at h2
      refine .inr ⟨j, l, rfl, hl, ?_⟩
      subst h2
      unfold rk at h3 ⊢
      split
      · rfl
      · rename_i h; rw [if_neg h] at h3; omega

theorem hp_false_lt {s p : ByteArray} (h : s.size < p.size) : hp s p = false := by
  cases hq : hp s p with
  | false => rfl
  | true => have := hp_size hq; omega
theorem hp_raw (s p : ByteArray) (h : p.size ≤ s.size) : ((s.extract 0 p.size).toList == p.toList) = hp s p := by
  have := Lib.hasPrefix_raw s p
  rw [show decide (p.size ≤ s.size) = true by simp; omega, Bool.true_and] at this
  exact this

set_option maxHeartbeats 4000000 in
set_option maxRecDepth 100000 in
theorem refLocation_any (path : ByteArray) (na la : Option Addr) (nn nc lc : Nat) (d : Bool) (L : List Loc) (w : World) (hp1 : path.size ≤ 4611686018427387904) (hL : LocsAt w la L) (hlen : L.length ≤ 9223372036854775807) :
    Calls Try.prog 14 #[.agg #[.slice na nn nc, .bool d, .slice la L.length lc], .string path] w fun e w' => e = .returned (locOf path L) ∧ Below w.heap.size w w' := by
  have hML : ∀ n ∈ L.map (rk path), n ≤ 1 + path.size := fun n hn => by
    obtain ⟨l, _, rfl⟩ := List.mem_map.1 hn
    exact rk_le path l
  have hll : (L.map (rk path)).length = L.length := by simp
  have hatp := atp_stt path L
  obtain ⟨R, hR⟩ : ∃ R, R = L.map (rk path) := ⟨_, rfl⟩
  rw [← hR] at hML hll hatp
  have hfin : locAt path L = (bst R 0 (-1, 0)).1 := by unfold locAt best; rw [hR]
  have hbd := locAt_bd path L
  unfold locOf
  obtain ⟨N, hN⟩ : ∃ N, N = L.length := ⟨_, rfl⟩
  rw [← hN] at hlen hll ⊢
  have HL := Lib.hid hL
  have HM := Lib.hid hML
  have HF := Lib.hid hfin
  have HR := Lib.hid hR
  have HN := Lib.hid hN
  have HLL := Lib.hid hll
  have HA := Lib.hid hatp
  clear hL hML hfin hR hN hll hatp hbd
  go_enter Try.func14, Try.ntmps14
  go_wp2_with fail
  have hbel0 : Below w.heap.size w (w.alloc (.cells #[.slice na nn nc, .bool d, .slice la N lc] 50)) := (Below.refl _ w).alloc (Nat.le_refl _) _
  have q0 : (w.alloc (.cells #[.slice na nn nc, .bool d, .slice la N lc] 50)).cell? ⟨w.heap.size, 2, none⟩ = some (.slice la N lc) := by simp
  have hlt0 : w.heap.size < (w.alloc (.cells #[.slice na nn nc, .bool d, .slice la N lc] 50)).heap.size := by simp
  generalize (w.alloc (.cells #[.slice na nn nc, .bool d, .slice la N lc] 50)) = w0 at hbel0 q0 hlt0 ⊢
  have HL0 := Lib.hid (HL.out.below hbel0)
  have HB0 := Lib.hid hbel0
  clear hbel0
  go_loopw [6, 7] (fun u i wr => ∃ k q : Nat, k ≤ N ∧ i = .int .i64 k ∧ u = .int .i64 (stt R k).1 ∧ wr = w0.drewN q) (fun _ i _ => N - (intOf i).toNat)
  case atStart => exact ⟨0, 0, Nat.zero_le _, rfl, by rw [stt_zero], rfl⟩
  case round =>
    obtain ⟨k, q, hk, rfl, rfl, rfl⟩ := hrel
    have hbd := stt_bd R k _ HM.out
    by_cases hlt : k < N
    · obtain ⟨l, hl⟩ : ∃ l, L[k]? = some l := ⟨L[k]'(by have := HN.out; omega), List.getElem?_eq_getElem _⟩
      obtain ⟨b, off, rfl, hbl, c0, -⟩ := LocsAt.get HL0.out hl
      have hst := stt_step R k (rk path l) (by rw [HR.out]; simp [hl])
      have hrk : rk path l = if hp path l.pre = true then 1 + l.pre.size else 0 := rfl
      have hatp := HA.out k
      have HST := Lib.hid hst
      by_cases hsz : l.pre.size ≤ path.size
      · have dsz : decide (l.pre.size ≤ path.size) = true := by simp; omega
        have hraw := hp_raw path l.pre hsz
        cases hh : hp path l.pre with
        | true =>
          rw [hh] at hraw
          rw [if_pos hh] at hrk
          generalize stt R k = p at *
          rcases hatp with ⟨h1, h2⟩ | ⟨j, l2, h1, h3, h2⟩
          · obtain ⟨p1, p2⟩ := p
            dsimp only at h1 h2 hbd
            subst h1; subst h2
            have HS2 : Hid (stt R (k + 1) = ((k : Int), rk path l)) := Lib.hid (by rw [HST.out, if_pos (by show 0 < rk path l; omega)])
            clear hrk hst hl hh
            go_wp2
            go_roundw
            case rel => exact ⟨k + 1, q, by omega, by go_num, by rw [HS2.out], rfl⟩
            case measure => simp [intOf]; omega
          · obtain ⟨p1, p2⟩ := p
            dsimp only at h1 h2 hbd
            subst h1; subst h2
            have hjN : j < N := by have := (List.getElem?_eq_some_iff.1 h3).1; have := HN.out; omega
            obtain ⟨b', off', e', _, c0', -⟩ := LocsAt.get HL0.out h3
            cases e'
            by_cases hgt : 1 + l2.pre.size < rk path l
            · have HS2 : Hid (stt R (k + 1) = ((k : Int), rk path l)) := Lib.hid (by rw [HST.out, if_pos (by show 1 + l2.pre.size < rk path l; exact hgt)])
              have dgt : decide (l2.pre.size < l.pre.size) = true := by simp; omega
              have djn : decide ((j : Int) < 0) = false := by simp
              clear hrk hst hl hh h3 hgt
              go_wp2
              go_roundw
              case rel => exact ⟨k + 1, q, by omega, by go_num, by rw [HS2.out], rfl⟩
              case measure => simp [intOf]; omega
            · have HS2 : Hid (stt R (k + 1) = ((j : Int), 1 + l2.pre.size)) := Lib.hid (by rw [HST.out, if_neg (by show ¬ 1 + l2.pre.size < rk path l; exact hgt)])
              have dgt : decide (l2.pre.size < l.pre.size) = false := by simp; omega
              have djn : decide ((j : Int) < 0) = false := by simp
              clear hrk hst hl hh h3 hgt
              go_wp2
              go_roundw
              case rel => exact ⟨k + 1, q, by omega, by go_num, by rw [HS2.out], rfl⟩
              case measure => simp [intOf]; omega
        | false =>
          rw [hh] at hraw
          rw [if_neg (by rw [hh]; simp)] at hrk
          have HS2 : Hid (stt R (k + 1) = stt R k) := Lib.hid (by rw [HST.out, if_neg (by omega)])
          generalize stt R k = p at *
          clear hrk hst hl hh hatp
          go_wp2
          go_roundw
          case rel => exact ⟨k + 1, q, by omega, by go_num, by rw [HS2.out], rfl⟩
          case measure => simp [intOf]; omega
      · have dsz : decide (l.pre.size ≤ path.size) = false := by simp; omega
        have hh := hp_false_lt (s := path) (p := l.pre) (by omega)
        rw [if_neg (by rw [hh]; simp)] at hrk
        have HS2 : Hid (stt R (k + 1) = stt R k) := Lib.hid (by rw [HST.out, if_neg (by omega)])
        generalize stt R k = p at *
        clear hrk hst hl hh hatp
        go_wp2
        go_roundw
        case rel => exact ⟨k + 1, q, by omega, by go_num, by rw [HS2.out], rfl⟩
        case measure => simp [intOf]; omega
    · obtain rfl : k = N := by omega
      have HE := Lib.hid (stt_end R k (by rw [HLL.out]; exact Nat.le_refl _))
      go_wp2
      go_ret2
      exact ⟨by rw [HF.out, ← HE.out]; rfl, belowN HB0.out⟩
end Go.Proofs.Ytlaoeciflifggaa.Rt
