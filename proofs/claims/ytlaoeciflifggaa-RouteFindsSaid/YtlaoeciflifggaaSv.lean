/- route.Server. -/
import Derived.Test.YtlaoeciflifggaaBs
import Derived.Deep.CutRange
import Derived.Deep.CutBlock
import Derived.WalkMore
import Derived.Laws.EntriesVeiled
set_option linter.unusedVariables false
namespace Go.Proofs.Ytlaoeciflifggaa.Rt
open Go.RowKit
open Go.Lib hiding intOf

/-- the first server that has the host's name itself; -1: none has -/
def eqI (host : ByteArray) (L : List Srv) : Int := match L.findIdx? (named host) with | some i => i | none => -1

theorem eqI_some {host : ByteArray} {L : List Srv} {k : Nat} {s : Srv} (hs : L[k]? = some s) (hn : named host s = true) (h : ∀ (i : Nat) x, i < k → L[i]? = some x → named host x = false) : eqI host L = k := by
  have hk := (List.getElem?_eq_some_iff.1 hs).1
  have : L.findIdx? (named host) = some k := by
    rw [List.findIdx?_eq_some_iff_getElem]
    refine ⟨hk, ?_, fun j hj => ?_⟩
    · rw [List.getElem?_eq_getElem hk] at hs; cases hs; exact hn
    · have := h j L[j] hj (List.getElem?_eq_getElem _); simp [this]
  unfold eqI; rw [this]
theorem eqI_none {host : ByteArray} {L : List Srv} (h : ∀ (i : Nat) x, L[i]? = some x → named host x = false) : eqI host L = -1 := by
  have : L.findIdx? (named host) = none := by
    rw [List.findIdx?_eq_none_iff]
    intro x hx
    obtain ⟨i, hi⟩ := List.getElem?_of_mem hx
    exact h i x hi
  unfold eqI; rw [this]
theorem named_some {host : ByteArray} {s : Srv} {j : Nat} {n : ByteArray} (hn : s.names[j]? = some n) (h : eqf n host = true) : named host s = true := by
  unfold named; rw [List.any_eq_true]; exact ⟨n, List.mem_of_getElem? hn, h⟩
theorem named_none {host : ByteArray} {s : Srv} (h : ∀ (j : Nat) n, s.names[j]? = some n → eqf n host = false) : named host s = false := by
  unfold named
  rw [List.any_eq_false]
  intro x hx
  obtain ⟨i, hi⟩ := List.getElem?_of_mem hx
  rw [h i x hi]; simp

theorem srvI_eq (host : ByteArray) (L : List Srv) : srvI host L = if eqI host L < 0 then (if best (L.map (rpt host)) < 0 then best (L.map rdf) else best (L.map (rpt host))) else eqI host L := by
  unfold srvI eqI
  cases h : L.findIdx? (named host) with
  | none => rfl
  | some i => simp only []; rw [if_neg (by omega)]

theorem best_bd (l : List Nat) : -1 ≤ best l ∧ best l < l.length := by have := bst_bd l; unfold best; omega
theorem eqI_bd (host : ByteArray) (L : List Srv) : -1 ≤ eqI host L ∧ eqI host L < L.length := by
  unfold eqI
  cases h : L.findIdx? (named host) with
  | none => simp only []; omega
  | some i =>
    rw [List.findIdx?_eq_some_iff_getElem] at h
    obtain ⟨hi, _⟩ := h
    simp only []; omega
theorem srvI_bd (host : ByteArray) (L : List Srv) : -1 ≤ srvI host L ∧ srvI host L < L.length := by
  rw [srvI_eq]
  have h1 := best_bd (L.map (rpt host))
  have h2 := best_bd (L.map rdf)
  have h3 := eqI_bd host L
  rw [List.length_map] at h1 h2
  split
  · split <;> omega
  · omega

/-- where the search stands before each rank -/
def atk (host : ByteArray) (L : List Srv) : Nat → Int
  | 0 => eqI host L
  | 1 => if eqI host L < 0 then best (L.map (rpt host)) else eqI host L
  | _ => srvI host L
theorem atk1 (host : ByteArray) (L : List Srv) (h : atk host L 0 < 0) : atk host L 1 = best (L.map (rpt host)) := if_pos h
theorem atk1' (host : ByteArray) (L : List Srv) (h : 0 ≤ atk host L 0) : atk host L 1 = atk host L 0 := if_neg (by have : 0 ≤ eqI host L := h; omega)
theorem atk_one (host : ByteArray) (L : List Srv) : atk host L 1 = if eqI host L < 0 then best (L.map (rpt host)) else eqI host L := rfl
theorem atk2 (host : ByteArray) (L : List Srv) (h : atk host L 1 < 0) : atk host L 2 = best (L.map rdf) := by
  show srvI host L = _
  rw [srvI_eq]
  rw [atk_one] at h
  by_cases h0 : eqI host L < 0
  · rw [if_pos h0] at h ⊢; rw [if_pos h]
  · rw [if_neg h0] at h; omega
theorem atk2' (host : ByteArray) (L : List Srv) (h : 0 ≤ atk host L 1) : atk host L 2 = atk host L 1 := by
  show srvI host L = _
  rw [srvI_eq]
  rw [atk_one] at h ⊢
  by_cases h0 : eqI host L < 0
  · rw [if_pos h0] at h ⊢; rw [if_neg (by omega), if_pos h0]
  · rw [if_neg h0, if_neg h0]

set_option maxHeartbeats 4000000 in
set_option maxRecDepth 100000 in
theorem server_any (host : ByteArray) (k0 k1 k2 k3 : Int) (ua sa : Option Addr) (un uc sc : Nat) (L : List Srv) (w : World) (hh : host.size ≤ 9223372036854775807) (hL : SrvsAt w sa L) (hlen : L.length ≤ 9223372036854775807) (hok : ∀ s ∈ L, SrvOk s) :
    Calls Try.prog 8 #[.agg #[.int .i64 k0, .int .i64 k1, .int .i64 k2, .int .i64 k3, .slice ua un uc, .slice sa L.length sc], .string host] w fun e w' => e = .returned (.tuple #[.int .i64 (srvOf host L).1, .int .i64 (srvOf host L).2]) ∧ Below w.heap.size w w' := by
  obtain ⟨N, hN⟩ : ∃ N, N = L.length := ⟨_, rfl⟩
  rw [← hN] at hlen ⊢
  have HOK := Lib.hid hok
  have HL := Lib.hid hL
  have HN := Lib.hid hN
  clear hL hok hN
  go_enter Try.func8, Try.ntmps8
  go_wp2_with fail
  have hbel0 : Below w.heap.size w ((w.alloc (.cells #[.int .i64 k0, .int .i64 k1, .int .i64 k2, .int .i64 k3, .slice ua un uc, .slice sa N sc] 29)).alloc (.cells #[.string host] 9)) := ((Below.refl _ w).alloc (Nat.le_refl _) _).alloc (by simp) _
  have q0 : ((w.alloc (.cells #[.int .i64 k0, .int .i64 k1, .int .i64 k2, .int .i64 k3, .slice ua un uc, .slice sa N sc] 29)).alloc (.cells #[.string host] 9)).cell? ⟨w.heap.size, 5, none⟩ = some (.slice sa N sc) := by
    simp
  have q1 : ((w.alloc (.cells #[.int .i64 k0, .int .i64 k1, .int .i64 k2, .int .i64 k3, .slice ua un uc, .slice sa N sc] 29)).alloc (.cells #[.string host] 9)).cell? ⟨w.heap.size + 1, 0, none⟩ = some (.string host) := by simp
  have hs0 : ((w.alloc (.cells #[.int .i64 k0, .int .i64 k1, .int .i64 k2, .int .i64 k3, .slice ua un uc, .slice sa N sc] 29)).alloc (.cells #[.string host] 9)).heap.size = w.heap.size + 2 := by simp
  generalize ((w.alloc (.cells #[.int .i64 k0, .int .i64 k1, .int .i64 k2, .int .i64 k3, .slice ua un uc, .slice sa N sc] 29)).alloc (.cells #[.string host] 9)) = w0 at hbel0 q0 q1 hs0 ⊢
  have HL0 := Lib.hid (HL.out.below hbel0)
  have HB0 := Lib.hid hbel0
  have HS0 := Lib.hid hs0
  have hl0 : w.heap.size < w0.heap.size := by omega
  have hl1 : w.heap.size + 1 < w0.heap.size := by omega
  have HQ0 := Lib.hid q0
  have HQ1 := Lib.hid q1
  clear hbel0 hs0
  go_step3
  go_wp2_with fail
  go_step3
  go_upto_block 0 with fail
  go_cut [6] from 7 to 34 (fun u wx => u = .int .i64 (eqI host L) ∧ Below w0.heap.size w0 wx)
  case first =>
    go_wp2_with fail
    go_loopw [6, 17] (fun u i wr => ∃ k : Nat, k ≤ N ∧ u = .int .i64 (-1) ∧ i = .int .i64 k ∧ Hid (Below w0.heap.size w0 wr) ∧ Hid (∀ (i : Nat) x, i < k → L[i]? = some x → named host x = false)) (fun _ i _ => N - (intOf i).toNat)
    case atStart => exact ⟨0, Nat.zero_le _, rfl, rfl, Lib.hid (Below.refl _ _), Lib.hid (fun i x hi => by omega)⟩
    case round =>
      obtain ⟨k, hk, rfl, rfl, hbel, hno⟩ := hrel
      by_cases hlt : k < N
      · obtain ⟨s, hs⟩ : ∃ s, L[k]? = some s := ⟨L[k]'(by have := HN.out; omega), List.getElem?_eq_getElem _⟩
        obtain ⟨b, off, na, nc, la, lc, rfl, hbl, c0, c1, c2, hnm, -⟩ := SrvsAt.get (HL0.out.below hbel.out) hs
        have hO := HOK.out s (List.mem_of_getElem? hs)
        have hnl := hO.nlen
        have ch := (hbel.out.cell (p := ⟨w.heap.size + 1, 0, none⟩) hl1).trans HQ1.out
        have HS := Lib.hid hs
        have HO := Lib.hid hO
        clear hs hO q0 q1
        go_wp2_with fail
        have hch : (wr.alloc (.cells #[.slice na s.names.length nc, .bool s.dflt, .slice la s.locs.length lc] 46)).cell? ⟨w.heap.size + 1, 0, none⟩ = some (.string host) := cell_alloc ch _
        have hb1 : Below w0.heap.size w0 (wr.alloc (.cells #[.slice na s.names.length nc, .bool s.dflt, .slice la s.locs.length lc] 46)) := hbel.out.alloc hbel.out.size _
        have hn1 : NamesAt (wr.alloc (.cells #[.slice na s.names.length nc, .bool s.dflt, .slice la s.locs.length lc] 46)) na s.names := hnm.below ((Below.refl _ _).alloc (Nat.le_refl _) _)
        generalize (wr.alloc (.cells #[.slice na s.names.length nc, .bool s.dflt, .slice la s.locs.length lc] 46)) = w1 at hch hb1 hn1 ⊢
        have hcl := cell_lt hch
        have HCH := Lib.hid hch
        have HB1 := Lib.hid hb1
        have HN1 := Lib.hid hn1
        clear c0 c1 c2 hnm ch hch hb1 hn1
        go_loopw [6, 25] (fun u i wr => ∃ j : Nat, j ≤ s.names.length ∧ u = .int .i64 (-1) ∧ i = .int .i64 j ∧ Hid (Below w1.heap.size w1 wr) ∧ Hid (∀ (t : Nat) n, t < j → s.names[t]? = some n → eqf n host = false)) (fun _ i _ => s.names.length - (intOf i).toNat)
        case atStart => exact ⟨0, Nat.zero_le _, rfl, rfl, Lib.hid (Below.refl _ _), Lib.hid (fun i x hi => by omega)⟩
        case round =>
          obtain ⟨j, hj, rfl, rfl, hbel2, hno2⟩ := hrel
          by_cases hjn : j < s.names.length
          · obtain ⟨n, hn⟩ : ∃ n, s.names[j]? = some n := ⟨s.names[j], List.getElem?_eq_getElem _⟩
            obtain ⟨b2, off2, rfl, hbl2, d0⟩ := NamesAt.get (HN1.out.below hbel2.out) hn
            have hnz := HO.out.names n (List.mem_of_getElem? hn)
            have ch := (hbel2.out.cell (p := ⟨w.heap.size + 1, 0, none⟩) hcl).trans HCH.out
            have HHN := Lib.hid hn
            clear hn
            go_wp2_with fail
            refine (equal_any n host _ hnz hh).mono ?_
            rintro e w' ⟨rfl, hb2⟩
            have HB2 := Lib.hid (hbel2.out.trans (hb2.mono hbel2.out.size))
            clear hb2
            cases hq : eqf n host with
            | true =>
              have HEQ := Lib.hid (eqI_some HS.out (named_some HHN.out hq) hno.out)
              clear hq
              go_wp2
              go_meet
              exact ⟨by rw [HEQ.out], HB1.out.trans (HB2.out.mono HB1.out.size)⟩
            | false =>
              have HNX : Hid (∀ (t : Nat) n, t < j + 1 → s.names[t]? = some n → eqf n host = false) := fun t n' ht hn' => by
                by_cases e : t = j
                · subst e; rw [HHN.out] at hn'; cases hn'; exact hq
                · exact hno2.out t n' (by omega) hn'
              clear hq
              go_wp2
              go_roundw
              case rel => exact ⟨j + 1, by omega, rfl, by go_num, HB2, HNX⟩
              case measure => simp [intOf]; omega
          · obtain rfl : j = s.names.length := by omega
            have HNK : Hid (∀ (i : Nat) x, i < k + 1 → L[i]? = some x → named host x = false) := fun i x hi hx => by
              by_cases e : i = k
              · subst e
                rw [HS.out] at hx; cases hx
                exact named_none fun t n hn => hno2.out t n (List.getElem?_eq_some_iff.1 hn).1 hn
              · exact hno.out i x (by omega) hx
            have HB3 := Lib.hid (HB1.out.trans (hbel2.out.mono HB1.out.size))
            go_wp2
            go_roundw
            case rel => exact ⟨k + 1, by omega, rfl, by go_num, HB3, HNK⟩
            case measure => simp [intOf]; omega
      · obtain rfl : k = N := by omega
        have HEQ := Lib.hid (eqI_none (host := host) (L := L) fun i x hx => hno.out i x (by have := (List.getElem?_eq_some_iff.1 hx).1; have := HN.out; omega) hx)
        go_wp2
        go_meet
        exact ⟨by rw [HEQ.out], hbel.out⟩
  case rest =>
    obtain ⟨rfl, hbel⟩ := hcut
    have hb1 : ∀ o, Below w0.heap.size w0 (wc.alloc o) := fun o => hbel.alloc hbel.size o
    have i0 : ∀ w', (Instr.index 72 (.agg #[.func (.func 20) #[] #[.pointer (some ⟨w.heap.size + 1, 0, none⟩)], .func (.func 22) #[] #[]]) (.int .i64 0)).run Try.prog w' = .ok (.func (.func 20) #[] #[.pointer (some ⟨w.heap.size + 1, 0, none⟩)]) w' := fun _ => by rfl
    have i1 : ∀ w', (Instr.index 72 (.agg #[.func (.func 20) #[] #[.pointer (some ⟨w.heap.size + 1, 0, none⟩)], .func (.func 22) #[] #[]]) (.int .i64 1)).run Try.prog w' = .ok (.func (.func 22) #[] #[]) w' := fun _ => by rfl
    have HB1 := Lib.hid hb1
    have hat0 : eqI host L = atk host L 0 := rfl
    rw [hat0]
    have HA1 := Lib.hid (atk1 host L)
    have HA1' := Lib.hid (atk1' host L)
    have HA2 := Lib.hid (atk2 host L)
    have HA2' := Lib.hid (atk2' host L)
    have hsb := srvI_bd host L
    have hso : srvOf host L = if N = 0 then (0, 61) else (max (atk host L 2) 0, 0) := by unfold srvOf; rw [HN.out]; rfl
    have HSO := Lib.hid hso
    have HFI : Hid (atk host L 2 = srvI host L) := Lib.hid rfl
    generalize atk host L = at3 at *
    clear hb1 hbel hat0 q0 q1 hso
    go_wp2_with fail
    have hbw := HB1.out (Obj.cells #[Value.func (Fn.func 20) #[] #[Value.pointer (some ⟨w.heap.size + 1, 0, none⟩)], Value.func (Fn.func 22) #[] #[]] 72)
    generalize (wc.alloc (Obj.cells #[Value.func (Fn.func 20) #[] #[Value.pointer (some ⟨w.heap.size + 1, 0, none⟩)], Value.func (Fn.func 22) #[] #[]] 72)) = w2 at hbw ⊢
    have HBW := Lib.hid hbw
    clear hbw HB1
    go_loopw [6, 38] (fun u i wr => ∃ k : Nat, k ≤ 2 ∧ u = .int .i64 (at3 k) ∧ i = .int .i64 k ∧ Hid (Below w0.heap.size w0 wr)) (fun _ i _ => 2 - (intOf i).toNat)
    case atStart => exact ⟨0, by omega, rfl, rfl, HBW⟩
    case round =>
      obtain ⟨k, hk, rfl, rfl, hbel⟩ := hrel
      have q0 := (hbel.out.cell (p := ⟨w.heap.size, 5, none⟩) hl0).trans HQ0.out
      have q1 := (hbel.out.cell (p := ⟨w.heap.size + 1, 0, none⟩) hl1).trans HQ1.out
      have hk3 : k = 0 ∨ k = 1 ∨ k = 2 := by omega
      rcases hk3 with rfl | rfl | rfl
      · by_cases hneg : at3 0 < 0
        · have hd : decide (at3 0 < 0) = true := by simp; omega
          have HX := Lib.hid (HA1.out hneg)
          have hB := bestPat_any host (w.heap.size + 1) hh sa sc L wr q1 (HL0.out.below hbel.out) (by have := HN.out; omega) HOK.out
          rw [← HN.out] at hB
          have HBB := Lib.hid hB
          clear hB
          go_wp2_with fail
          refine HBB.out.mono ?_
          rintro e w' ⟨rfl, hb2⟩
          have HB2 := Lib.hid (hbel.out.trans (hb2.mono hbel.out.size))
          rw [← HX.out]
          clear hb2
          go_wp2
          go_roundw
          case rel => exact ⟨1, by omega, rfl, by go_num, HB2⟩
          case measure => simp [intOf]
        · have hd : decide (at3 0 < 0) = false := by simp; omega
          have HX := Lib.hid (HA1'.out (by omega))
          go_wp2_with fail
          go_roundw
          case rel => exact ⟨1, by omega, by rw [HX.out], by go_num, hbel⟩
          case measure => simp [intOf]
      · by_cases hneg : at3 1 < 0
        · have hd : decide (at3 1 < 0) = true := by simp; omega
          have HX := Lib.hid (HA2.out hneg)
          have hB := bestDef_any sa sc L wr (HL0.out.below hbel.out) (by have := HN.out; omega) HOK.out
          rw [← HN.out] at hB
          have HBB := Lib.hid hB
          clear hB
          go_wp2_with fail
          refine HBB.out.mono ?_
          rintro e w' ⟨rfl, hb2⟩
          have HB2 := Lib.hid (hbel.out.trans (hb2.mono hbel.out.size))
          rw [← HX.out]
          clear hb2
          go_wp2
          go_roundw
          case rel => exact ⟨2, by omega, rfl, by go_num, HB2⟩
          case measure => simp [intOf]
        · have hd : decide (at3 1 < 0) = false := by simp; omega
          have HX := Lib.hid (HA2'.out (by omega))
          go_wp2_with fail
          go_roundw
          case rel => exact ⟨2, by omega, by rw [HX.out], by go_num, hbel⟩
          case measure => simp [intOf]
      · by_cases hz : N = 0
        · have dz : ((N : Int) == 0) = true := by simp; omega
          have HR := Lib.hid (HSO.out.trans (if_pos hz))
          clear hz
          go_wp2_with fail
          rw [Exit.noGoto_ret]
          go_ret2
          exact ⟨by rw [HR.out]; rfl, HB0.out.trans (hbel.out.mono HB0.out.size)⟩
        · have dz : ((N : Int) == 0) = false := by simp; omega
          have HR := Lib.hid (HSO.out.trans (if_neg hz))
          clear hz
          go_wp2_with fail
          rw [Exit.noGoto_ret]
          go_ret2
          exact ⟨by rw [HR.out]; rfl, HB0.out.trans (hbel.out.mono HB0.out.size)⟩
end Go.Proofs.Ytlaoeciflifggaa.Rt
