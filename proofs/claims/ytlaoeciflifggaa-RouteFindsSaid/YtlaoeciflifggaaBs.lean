/- The best server: the closures and the search. -/
import Derived.Test.YtlaoeciflifggaaBl
set_option linter.unusedVariables false
namespace Go.Proofs.Ytlaoeciflifggaa.Rt
open Go.RowKit
open Go.Lib hiding intOf

theorem pmax_le (host : ByteArray) (M : Nat) : ∀ l : List ByteArray, (∀ n ∈ l, n.size ≤ M) → pmax host l ≤ M
  | [], _ => by simp [pmax]
  | n :: l, h => by
    have h1 := pmax_le host M l (fun x hx => h x (by simp [hx]))
    have h2 := pat_le n host
    have h3 := h n (by simp)
    simp only [pmax]; omega

theorem pmax_take (host : ByteArray) (l : List ByteArray) (k : Nat) (n : ByteArray) (h : l[k]? = some n) : pmax host (l.take (k + 1)) = max (pmax host (l.take k)) (pat n host) := by
  rw [List.take_add_one, h]
  simp only [Option.toList]
  rw [pmax_snoc]

def rpt (host : ByteArray) (s : Srv) : Nat := pmax host s.names

set_option maxHeartbeats 2000000 in
set_option maxRecDepth 100000 in
theorem rankPat_any (host : ByteArray) (s : Srv) (pb : Nat) (na la : Option Addr) (nc lc : Nat) (w : World) (hc : w.cell? ⟨pb, 0, none⟩ = some (.string host)) (hh : host.size ≤ 9223372036854775807) (hN : NamesAt w na s.names) (hok : SrvOk s) :
    Calls Try.prog 20 #[.agg #[.slice na s.names.length nc, .bool s.dflt, .slice la s.locs.length lc], .pointer (some ⟨pb, 0, none⟩)] w (NatBelow (rpt host s) w) := by
  have hrp : rpt host s = pmax host s.names := rfl
  have hpl := cell_lt hc
  have hnl := hok.nlen
  have hM := pmax_le host 9223372036854775807
  have hns : ∀ k, ∀ n ∈ s.names.take k, n.size ≤ 9223372036854775807 := fun k n hn => hok.names n (List.mem_of_mem_take hn)
  have HNS := Lib.hid hns
  have HM := Lib.hid hM
  have HOK := Lib.hid hok.names
  have HC := Lib.hid hc
  have HN := Lib.hid hN
  generalize hnms : s.names = names at *
  have HE := Lib.hid hnms
  have HRP := Lib.hid hrp
  clear hc hN hok hns hM hnms hrp
  go_enter Try.func20, Try.ntmps20
  go_wp2_with fail
  go_loopw [4, 10] (fun v i wr => ∃ k : Nat, k ≤ names.length ∧ i = .int .i64 k ∧ v = .int .i64 (pmax host (names.take k)) ∧ Hid (Below w.heap.size w wr)) (fun _ i _ => names.length - (intOf i).toNat)
  case atStart => exact ⟨0, Nat.zero_le _, rfl, rfl, Lib.hid ((Below.refl _ w).alloc (Nat.le_refl _) _)⟩
  case round =>
    obtain ⟨k, hk, rfl, rfl, hbel⟩ := hrel
    have hpm := HM.out _ (HNS.out k)
    by_cases hlt : k < names.length
    · obtain ⟨n, hn⟩ : ∃ n, names[k]? = some n := ⟨names[k], List.getElem?_eq_getElem _⟩
      obtain ⟨b, off, rfl, hbl, c0⟩ := NamesAt.get (HN.out.below hbel.out) hn
      have hst := Lib.hid (pmax_take host names k n hn)
      have hnz := HOK.out n (List.mem_of_getElem? hn)
      have hp2 := pat_le n host
      have ch := (hbel.out.cell (p := ⟨pb, 0, none⟩) hpl).trans HC.out
      have HHN := Lib.hid hn
      clear hn
      go_wp2_with fail
      refine (pattern_any n host _ hnz hh).mono ?_
      rintro e w' ⟨rfl, hb2⟩
      have HB2 := Lib.hid (hbel.out.trans (hb2.mono hbel.out.size))
      clear hb2
      generalize pmax host (names.take k) = p at *
      generalize pat n host = r at *
      go_wp2
      go_roundw
      case rel => exact ⟨k + 1, by omega, by go_num, by rw [hst.out]; go_num, HB2⟩
      case measure => simp [intOf]; omega
    · obtain rfl : k = names.length := by omega
      have HT := Lib.hid (List.take_length (l := names))
      go_wp2
      go_ret
      exact ⟨by show Ending.returned (.int .i64 _) = _; rw [HT.out, HRP.out], hbel.out⟩

set_option maxHeartbeats 1000000 in
theorem rankDef_any (s : Srv) (na la : Option Addr) (nc lc : Nat) (w : World) :
    Calls Try.prog 22 #[.agg #[.slice na s.names.length nc, .bool s.dflt, .slice la s.locs.length lc]] w (NatBelow (rdf s) w) := by
  unfold rdf
  cases h : s.dflt with
  | true =>
    go_enter Try.func22, Try.ntmps22
    go_wp2
    go_ret
    exact ⟨rfl, (Below.refl _ w).alloc (Nat.le_refl _) _⟩
  | false =>
    go_enter Try.func22, Try.ntmps22
    go_wp2
    go_ret
    exact ⟨rfl, (Below.refl _ w).alloc (Nat.le_refl _) _⟩

set_option maxHeartbeats 2000000 in
set_option maxRecDepth 100000 in
theorem bestPat_any (host : ByteArray) (pb : Nat) (hh : host.size ≤ 9223372036854775807) (a : Option Addr) (c : Nat) (L : List Srv) (w : World) (hc : w.cell? ⟨pb, 0, none⟩ = some (.string host)) (hL : SrvsAt w a L) (hlen : L.length ≤ 9223372036854775807) (hok : ∀ s ∈ L, SrvOk s) :
    Calls Try.prog 23 #[.slice a L.length c, .func (.func 20) #[] #[.pointer (some ⟨pb, 0, none⟩)]] w fun e w' => e = .returned (.int .i64 (best (L.map (rpt host)))) ∧ Below w.heap.size w w' := by
  have hML : ∀ n ∈ L.map (rpt host), n ≤ 9223372036854775807 := fun n hn => by
    obtain ⟨s, hs, rfl⟩ := List.mem_map.1 hn
    exact pmax_le host _ _ (hok s hs).names
  have hll : (L.map (rpt host)).length = L.length := by simp
  have hrk : ∀ (k : Nat) s, L[k]? = some s → (L.map (rpt host))[k]? = some ((rpt host) s) := fun k s h => by simp [h]
  have hfin : best (L.map (rpt host)) = (bst (L.map (rpt host)) 0 (-1, 0)).1 := rfl
  generalize L.map (rpt host) = R at hML hll hrk hfin ⊢
  obtain ⟨N, hN⟩ : ∃ N, N = L.length := ⟨_, rfl⟩
  rw [← hN] at hlen hll ⊢
  have hpl := cell_lt hc
  have HC := Lib.hid hc
  clear hc
  have HOK := Lib.hid hok
  have HL := Lib.hid hL
  have HM := Lib.hid hML
  have HF := Lib.hid hfin
  have HR := Lib.hid hrk
  have HN := Lib.hid hN
  have HLL := Lib.hid hll
  clear hL hML hfin hrk hN hll hok
  go_enter Try.func23, Try.ntmps23
  go_wp2_with fail
  go_loopw [5, 6, 12] (fun u v i wr => ∃ k : Nat, k ≤ N ∧ i = .int .i64 k ∧ u = .int .i64 (stt R k).1 ∧ v = .int .i64 (stt R k).2 ∧ Hid (Below w.heap.size w wr)) (fun _ _ i _ => N - (intOf i).toNat)
  case atStart => exact ⟨0, Nat.zero_le _, rfl, by rw [stt_zero], by rw [stt_zero]; rfl, Lib.hid (Below.refl _ _)⟩
  case round =>
    obtain ⟨k, hk, rfl, rfl, rfl, hbel⟩ := hrel
    have hbd := stt_bd R k _ HM.out
    by_cases hlt : k < N
    · obtain ⟨s, hs⟩ : ∃ s, L[k]? = some s := ⟨L[k]'(by have := HN.out; omega), List.getElem?_eq_getElem _⟩
      obtain ⟨b, off, na, nc, la, lc, rfl, hbl, c0, c1, c2, hnm, -⟩ := SrvsAt.get (HL.out.below hbel.out) hs
      have hst := stt_step R k _ (HR.out k s hs)
      have hrl := HM.out _ (List.mem_of_getElem? (HR.out k s hs))
      have HST := Lib.hid hst
      have HS := Lib.hid hs
      have HNM := Lib.hid hnm
      have HO := Lib.hid (HOK.out s (List.mem_of_getElem? hs))
      clear hst hs hnm
      go_wp2_with fail
      refine (rankPat_any host s pb na la nc lc _ ?_ hh ?_ HO.out).mono ?_
      · exact cell_allocN ((hbel.out.cell (p := ⟨pb, 0, none⟩) hpl).trans HC.out) _ 0
      · exact HNM.out.below ((Below.refl _ _).alloc (Nat.le_refl _) _)
      rintro e w' ⟨rfl, hb2⟩
      have HB2 := Lib.hid ((hbel.out.alloc hbel.out.size _).trans (hb2.mono (by have := hbel.out.size; simp; omega)))
      clear hb2 c0 c1 c2
      by_cases hgt : (stt R k).2 < (rpt host) s
      · have hst := HST.out
        rw [if_pos hgt] at hst
        have HS2 := Lib.hid hst
        clear hst
        generalize stt R k = p at *
        generalize (rpt host) s = rr at *
        go_wp2
        go_roundw
        case rel => exact ⟨k + 1, by omega, by go_num, by rw [HS2.out], by rw [HS2.out], HB2⟩
        case measure => simp [intOf]; omega
      · have hst := HST.out
        rw [if_neg hgt] at hst
        have HS2 := Lib.hid hst
        clear hst
        generalize stt R k = p at *
        generalize (rpt host) s = rr at *
        go_wp2
        go_roundw
        case rel => exact ⟨k + 1, by omega, by go_num, by rw [HS2.out], by rw [HS2.out], HB2⟩
        case measure => simp [intOf]; omega
    · obtain rfl : k = N := by omega
      have HE := Lib.hid (stt_end R k (by rw [HLL.out]; exact Nat.le_refl _))
      go_wp2
      go_ret
      exact ⟨by rw [HF.out, ← HE.out]; rfl, hbel.out⟩

set_option maxHeartbeats 2000000 in
set_option maxRecDepth 100000 in
theorem bestDef_any (a : Option Addr) (c : Nat) (L : List Srv) (w : World) (hL : SrvsAt w a L) (hlen : L.length ≤ 9223372036854775807) (hok : ∀ s ∈ L, SrvOk s) :
    Calls Try.prog 23 #[.slice a L.length c, .func (.func 22) #[] #[]] w fun e w' => e = .returned (.int .i64 (best (L.map rdf))) ∧ Below w.heap.size w w' := by
  have hML : ∀ n ∈ L.map rdf, n ≤ 1 := fun n hn => by
    obtain ⟨s, hs, rfl⟩ := List.mem_map.1 hn
    unfold rdf; split <;> omega
  have hll : (L.map rdf).length = L.length := by simp
  have hrk : ∀ (k : Nat) s, L[k]? = some s → (L.map rdf)[k]? = some (rdf s) := fun k s h => by simp [h]
  have hfin : best (L.map rdf) = (bst (L.map rdf) 0 (-1, 0)).1 := rfl
  generalize L.map rdf = R at hML hll hrk hfin ⊢
  obtain ⟨N, hN⟩ : ∃ N, N = L.length := ⟨_, rfl⟩
  rw [← hN] at hlen hll ⊢
  have HOK := Lib.hid hok
  have HL := Lib.hid hL
  have HM := Lib.hid hML
  have HF := Lib.hid hfin
  have HR := Lib.hid hrk
  have HN := Lib.hid hN
  have HLL := Lib.hid hll
  clear hL hML hfin hrk hN hll hok
  go_enter Try.func23, Try.ntmps23
  go_wp2_with fail
  go_loopw [5, 6, 12] (fun u v i wr => ∃ k : Nat, k ≤ N ∧ i = .int .i64 k ∧ u = .int .i64 (stt R k).1 ∧ v = .int .i64 (stt R k).2 ∧ Hid (Below w.heap.size w wr)) (fun _ _ i _ => N - (intOf i).toNat)
  case atStart => exact ⟨0, Nat.zero_le _, rfl, by rw [stt_zero], by rw [stt_zero]; rfl, Lib.hid (Below.refl _ _)⟩
  case round =>
    obtain ⟨k, hk, rfl, rfl, rfl, hbel⟩ := hrel
    have hbd := stt_bd R k _ HM.out
    by_cases hlt : k < N
    · obtain ⟨s, hs⟩ : ∃ s, L[k]? = some s := ⟨L[k]'(by have := HN.out; omega), List.getElem?_eq_getElem _⟩
      obtain ⟨b, off, na, nc, la, lc, rfl, hbl, c0, c1, c2, hnm, -⟩ := SrvsAt.get (HL.out.below hbel.out) hs
      have hst := stt_step R k _ (HR.out k s hs)
      have hrl := HM.out _ (List.mem_of_getElem? (HR.out k s hs))
      have HST := Lib.hid hst
      have HS := Lib.hid hs
      have HNM := Lib.hid hnm
      have HO := Lib.hid (HOK.out s (List.mem_of_getElem? hs))
      clear hst hs hnm
      go_wp2_with fail
      refine (rankDef_any s na la nc lc _).mono ?_
      rintro e w' ⟨rfl, hb2⟩
      have HB2 := Lib.hid ((hbel.out.alloc hbel.out.size _).trans (hb2.mono (by have := hbel.out.size; simp; omega)))
      clear hb2 c0 c1 c2
      by_cases hgt : (stt R k).2 < rdf s
      · have hst := HST.out
        rw [if_pos hgt] at hst
        have HS2 := Lib.hid hst
        clear hst
        generalize stt R k = p at *
        generalize rdf s = rr at *
        go_wp2
        go_roundw
        case rel => exact ⟨k + 1, by omega, by go_num, by rw [HS2.out], by rw [HS2.out], HB2⟩
        case measure => simp [intOf]; omega
      · have hst := HST.out
        rw [if_neg hgt] at hst
        have HS2 := Lib.hid hst
        clear hst
        generalize stt R k = p at *
        generalize rdf s = rr at *
        go_wp2
        go_roundw
        case rel => exact ⟨k + 1, by omega, by go_num, by rw [HS2.out], by rw [HS2.out], HB2⟩
        case measure => simp [intOf]; omega
    · obtain rfl : k = N := by omega
      have HE := Lib.hid (stt_end R k (by rw [HLL.out]; exact Nat.le_refl _))
      go_wp2
      go_ret
      exact ⟨by rw [HF.out, ← HE.out]; rfl, hbel.out⟩
end Go.Proofs.Ytlaoeciflifggaa.Rt
