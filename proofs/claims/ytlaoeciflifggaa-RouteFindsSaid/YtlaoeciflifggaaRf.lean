/- The document's Server and Find. -/
import Derived.Test.YtlaoeciflifggaaFd
set_option linter.unusedVariables false
namespace Go.Proofs.Ytlaoeciflifggaa.Rt
open Go.RowKit
open Go.Lib hiding intOf

/-- within a server's names -/
def inn (p : Int × Nat) (i pm : Nat) : Int × Nat := if p.2 < pm then ((i : Int), pm) else p
theorem inn_zero (p : Int × Nat) (i : Nat) : inn p i 0 = p := by unfold inn; rw [if_neg (by omega)]
theorem inn_step (p : Int × Nat) (i pm n : Nat) : inn p i (max pm n) = if (inn p i pm).2 < n then ((i : Int), n) else inn p i pm := by
  unfold inn
  by_cases h1 : p.2 < pm
  · rw [if_pos h1, if_pos (by omega)]
    by_cases h2 : pm < n
    · simp only [if_pos h2]; rw [show max pm n = n by omega]
    · simp only [if_neg h2]; rw [show max pm n = pm by omega]
  · rw [if_neg h1]
    by_cases h2 : p.2 < n
    · simp only [if_pos h2]; rw [if_pos (by omega), show max pm n = n by omega]
    · simp only [if_neg h2]; rw [if_neg (by omega)]
theorem inn_bd (p : Int × Nat) (i pm : Nat) (hi : i ≤ 9223372036854775806) (h1 : -1 ≤ p.1) (h2 : p.1 ≤ 9223372036854775806) : -1 ≤ (inn p i pm).1 ∧ (inn p i pm).1 ≤ 9223372036854775806 ∧ (inn p i pm).2 ≤ max p.2 pm := by
  unfold inn; split
  · exact ⟨by show -1 ≤ (i : Int); omega, by show (i : Int) ≤ _; omega, by show pm ≤ _; omega⟩
  · exact ⟨h1, h2, by omega⟩

/-- the first that is the default -/
theorem best_def {L : List Srv} {k : Nat} {s : Srv} (hs : L[k]? = some s) (hd : s.dflt = true) (h : ∀ (i : Nat) x, i < k → L[i]? = some x → x.dflt = false) : best (L.map rdf) = k := by
  have hr : rdf s = 1 := by unfold rdf; rw [if_pos hd]
  unfold best
  rcases bst_spec (L.map rdf) with ⟨_, h2⟩ | ⟨j, n, h1, h2, h3, h4⟩
  · have := h2 (rdf s) (List.mem_map_of_mem (List.mem_of_getElem? hs)); omega
  · rw [h1]
    rw [List.getElem?_map] at h2
    cases hx : L[j]? with
    | none => rw [hx] at h2; cases h2
    | some x =>
      rw [hx] at h2
      simp only [Option.map_some, Option.some.injEq] at h2
      have hdx : x.dflt = true := by
        cases hq : x.dflt with
        | true => rfl
        | false => unfold rdf at h2; rw [hq] at h2; simp at h2; omega
      have hjk : ¬ j < k := fun hl => by have := h j x hl hx; rw [this] at hdx; cases hdx
      have hkj : ¬ k < j := fun hl => by
        have := (h4 k (rdf s) (by simp [hs])).2 hl
        unfold rdf at h2; rw [if_pos hdx] at h2; omega
      show (j : Int) = k
      omega
theorem best_nodef {L : List Srv} (h : ∀ (i : Nat) x, L[i]? = some x → x.dflt = false) : best (L.map rdf) = -1 := by
  unfold best
  rcases bst_spec (L.map rdf) with ⟨h1, _⟩ | ⟨j, n, h1, h2, h3, h4⟩
  · rw [h1]
  · rw [List.getElem?_map] at h2
    cases hx : L[j]? with
    | none => rw [hx] at h2; cases h2
    | some x =>
      rw [hx] at h2
      simp only [Option.map_some, Option.some.injEq] at h2
      have := h j x hx
      unfold rdf at h2; rw [this] at h2; simp at h2; omega

theorem srvOf_eq {host : ByteArray} {L : List Srv} {k : Nat} (hk : k < L.length) (h : eqI host L = k) : srvOf host L = ((k : Int), 0) := by
  unfold srvOf
  rw [if_neg (by omega), srvI_eq, h, if_neg (by omega)]
  congr 1; omega
theorem srvOf_pat {host : ByteArray} {L : List Srv} (hk : L.length ≠ 0) (h : eqI host L = -1) (h2 : 0 ≤ best (L.map (rpt host))) : srvOf host L = (best (L.map (rpt host)), 0) := by
  unfold srvOf
  rw [if_neg (by omega), srvI_eq, h, if_pos (by omega), if_neg (by omega)]
  congr 1; omega
theorem srvOf_def {host : ByteArray} {L : List Srv} {k : Nat} (hk : k < L.length) (h : eqI host L = -1) (h2 : best (L.map (rpt host)) < 0) (h3 : best (L.map rdf) = k) : srvOf host L = ((k : Int), 0) := by
  unfold srvOf
  rw [if_neg (by omega), srvI_eq, h, if_pos (by omega), if_pos h2, h3]
  congr 1; omega
theorem srvOf_none {host : ByteArray} {L : List Srv} (hk : L.length ≠ 0) (h : eqI host L = -1) (h2 : best (L.map (rpt host)) < 0) (h3 : best (L.map rdf) = -1) : srvOf host L = (0, 0) := by
  unfold srvOf
  rw [if_neg hk, srvI_eq, h, if_pos (by omega), if_pos h2, h3]
  rfl

set_option maxHeartbeats 4000000 in
set_option maxRecDepth 100000 in
theorem refServer_any (host : ByteArray) (k0 k1 k2 k3 : Int) (ua sa : Option Addr) (un uc sc : Nat) (L : List Srv) (w : World) (hh : host.size ≤ 9223372036854775807) (hL : SrvsAt w sa L) (hlen : L.length ≤ 9223372036854775806) (hok : ∀ s ∈ L, SrvOk s) :
    Calls Try.prog 9 #[.agg #[.int .i64 k0, .int .i64 k1, .int .i64 k2, .int .i64 k3, .slice ua un uc, .slice sa L.length sc], .string host] w fun e w' => e = .returned (.tuple #[.int .i64 (srvOf host L).1, .int .i64 (srvOf host L).2]) ∧ Below w.heap.size w w' := by
  have hML : ∀ n ∈ L.map (rpt host), n ≤ 9223372036854775807 := fun n hn => by
    obtain ⟨s, hs, rfl⟩ := List.mem_map.1 hn
    exact pmax_le host _ _ (hok s hs).names
  have hrk : ∀ (k : Nat) s, L[k]? = some s → (L.map (rpt host))[k]? = some (pmax host s.names) := fun k s h => by simp [h, rpt]
  have hll : (L.map (rpt host)).length = L.length := by simp
  have hbe : best (L.map (rpt host)) = (bst (L.map (rpt host)) 0 (-1, 0)).1 := rfl
  have hsp := srvOf_pat (host := host) (L := L)
  have hsd := fun k => srvOf_def (host := host) (L := L) (k := k)
  have hsn := srvOf_none (host := host) (L := L)
  generalize L.map (rpt host) = R at hML hrk hll hbe hsp hsd hsn
  obtain ⟨N, hN⟩ : ∃ N, N = L.length := ⟨_, rfl⟩
  rw [← hN] at hlen hll ⊢
  have HOK := Lib.hid hok
  have HL := Lib.hid hL
  have HN := Lib.hid hN
  have HM := Lib.hid hML
  have HR := Lib.hid hrk
  have HLL := Lib.hid hll
  have HBE := Lib.hid hbe
  have HSP := Lib.hid hsp
  have HSD := Lib.hid hsd
  have HSN := Lib.hid hsn
  clear hL hok hN hML hrk hll hbe hsp hsd hsn
  go_enter Try.func9, Try.ntmps9
  go_wp2_with fail
  have hbel0 : Below w.heap.size w (w.alloc (.cells #[.int .i64 k0, .int .i64 k1, .int .i64 k2, .int .i64 k3, .slice ua un uc, .slice sa N sc] 25)) := (Below.refl _ w).alloc (Nat.le_refl _) _
  have q0 : (w.alloc (.cells #[.int .i64 k0, .int .i64 k1, .int .i64 k2, .int .i64 k3, .slice ua un uc, .slice sa N sc] 25)).cell? ⟨w.heap.size, 5, none⟩ = some (.slice sa N sc) := by
    simp
  have hl0 : w.heap.size < (w.alloc (.cells #[.int .i64 k0, .int .i64 k1, .int .i64 k2, .int .i64 k3, .slice ua un uc, .slice sa N sc] 25)).heap.size := by simp
  generalize (w.alloc (.cells #[.int .i64 k0, .int .i64 k1, .int .i64 k2, .int .i64 k3, .slice ua un uc, .slice sa N sc] 25)) = w0 at hbel0 q0 hl0 ⊢
  have HL0 := Lib.hid (HL.out.below hbel0)
  have HB0 := Lib.hid hbel0
  have HQ0 := Lib.hid q0
  clear hbel0 q0
  go_loopw [6] (fun i wr => ∃ k : Nat, k ≤ N ∧ i = .int .i64 k ∧ Hid (Below w0.heap.size w0 wr) ∧ Hid (∀ (i : Nat) x, i < k → L[i]? = some x → named host x = false)) (fun i _ => N - (intOf i).toNat)
  case atStart => exact ⟨0, Nat.zero_le _, rfl, Lib.hid (Below.refl _ _), Lib.hid (fun i x hi => by omega)⟩
  case round =>
    obtain ⟨k, hk, rfl, hbel, hno⟩ := hrel
    have q0 := (hbel.out.cell (p := ⟨w.heap.size, 5, none⟩) hl0).trans HQ0.out
    by_cases hlt : k < N
    · obtain ⟨s, hs⟩ : ∃ s, L[k]? = some s := ⟨L[k]'(by have := HN.out; omega), List.getElem?_eq_getElem _⟩
      have hO := HOK.out s (List.mem_of_getElem? hs)
      have hnl := hO.nlen
      have HS := Lib.hid hs
      have HO := Lib.hid hO
      clear hs hO
      go_wp2_with fail
      go_loopw [7] (fun i wr => ∃ j : Nat, j ≤ s.names.length ∧ i = .int .i64 j ∧ Hid (Below w0.heap.size w0 wr) ∧ Hid (∀ (t : Nat) n, t < j → s.names[t]? = some n → eqf n host = false)) (fun i _ => s.names.length - (intOf i).toNat)
      case atStart => exact ⟨0, Nat.zero_le _, rfl, hbel, Lib.hid (fun i x hi => by omega)⟩
      case round =>
        obtain ⟨j, hj, rfl, hbel2, hno2⟩ := hrel
        have q0 := (hbel2.out.cell (p := ⟨w.heap.size, 5, none⟩) hl0).trans HQ0.out
        obtain ⟨b, off, na, nc, la, lc, rfl, hbl, c0, c1, c2, hnm, -⟩ := SrvsAt.get (HL0.out.below hbel2.out) HS.out
        by_cases hjn : j < s.names.length
        · obtain ⟨n, hn⟩ : ∃ n, s.names[j]? = some n := ⟨s.names[j], List.getElem?_eq_getElem _⟩
          obtain ⟨b2, off2, rfl, hbl2, d0⟩ := NamesAt.get hnm hn
          have hnz := HO.out.names n (List.mem_of_getElem? hn)
          have HHN := Lib.hid hn
          clear hn hnm c1 c2
          go_wp2_with fail
          refine (refEqual_any n host _ hnz hh).mono ?_
          rintro e w' ⟨rfl, hb2⟩
          have HB2 := Lib.hid (hbel2.out.trans (hb2.mono hbel2.out.size))
          clear hb2 c0 d0 q0
          cases hq : eqf n host with
          | true =>
            have HEQ := Lib.hid (srvOf_eq (host := host) (L := L) (k := k) (by have := HN.out; omega) (eqI_some HS.out (named_some HHN.out hq) hno.out))
            clear hq
            go_wp2
            go_ret2
            exact ⟨by rw [HEQ.out]; rfl, HB0.out.trans (HB2.out.mono HB0.out.size)⟩
          | false =>
            have HNX : Hid (∀ (t : Nat) n, t < j + 1 → s.names[t]? = some n → eqf n host = false) := fun t n' ht hn' => by
              by_cases e : t = j
              · subst e; rw [HHN.out] at hn'; cases hn'; exact hq
              · exact hno2.out t n' (by omega) hn'
            clear hq
            go_wp2
            go_roundw
            case rel => exact ⟨j + 1, by omega, by go_num, HB2, HNX⟩
            case measure => simp [intOf]; omega
        · obtain rfl : j = s.names.length := by omega
          have HNK : Hid (∀ (i : Nat) x, i < k + 1 → L[i]? = some x → named host x = false) := fun i x hi hx => by
            by_cases e : i = k
            · subst e
              rw [HS.out] at hx; cases hx
              exact named_none fun t n hn => hno2.out t n (List.getElem?_eq_some_iff.1 hn).1 hn
            · exact hno.out i x (by omega) hx
          clear hnm c1 c2
          go_wp2
          go_roundw
          case rel => exact ⟨k + 1, by omega, by go_num, hbel2, HNK⟩
          case measure => simp [intOf]; omega
    · obtain rfl : N = k := by omega
      have HEQ := Lib.hid (eqI_none (host := host) (L := L) fun i x hx => hno.out i x (by have := (List.getElem?_eq_some_iff.1 hx).1; have := HN.out; omega) hx)
      clear hlt hk hno
      go_wp2_with fail
      go_loopw [8, 9, 10] (fun u v i wr => ∃ k : Nat, k ≤ N ∧ u = .int .i64 (stt R k).2 ∧ v = .int .i64 (stt R k).1 ∧ i = .int .i64 k ∧ Hid (Below w0.heap.size w0 wr)) (fun _ _ i _ => N - (intOf i).toNat)
      case atStart => exact ⟨0, Nat.zero_le _, by rw [stt_zero]; rfl, by rw [stt_zero], rfl, hbel⟩
      case round =>
        clear q0 hbel
        obtain ⟨k, hk, rfl, rfl, rfl, hbel⟩ := hrel
        have hbd := stt_bd R k _ HM.out
        have q0 := (hbel.out.cell (p := ⟨w.heap.size, 5, none⟩) hl0).trans HQ0.out
        by_cases hlt : k < N
        · obtain ⟨s, hs⟩ : ∃ s, L[k]? = some s := ⟨L[k]'(by have := HN.out; omega), List.getElem?_eq_getElem _⟩
          have hO := HOK.out s (List.mem_of_getElem? hs)
          have hnl := hO.nlen
          have hst := stt_step R k _ (HR.out k s hs)
          have hRl := HLL.out
          obtain ⟨p, hp⟩ : ∃ p, p = stt R k := ⟨_, rfl⟩
          rw [← hp] at hst hbd ⊢
          have hb1 : -1 ≤ p.1 := hbd.1
          have hb2 : p.1 ≤ 9223372036854775806 := by omega
          have hb3 : p.2 ≤ 9223372036854775807 := hbd.2.2.2
          have hki : k ≤ 9223372036854775806 := by omega
          have HST := Lib.hid hst
          have HS := Lib.hid hs
          have HO := Lib.hid hO
          have HP := Lib.hid hp
          clear hs hO hst hp hbd hRl
          go_wp2_with fail
          go_loopw [8, 9, 11] (fun u v i wr => ∃ j : Nat, j ≤ s.names.length ∧ u = .int .i64 (inn p k (pmax host (s.names.take j))).2 ∧ v = .int .i64 (inn p k (pmax host (s.names.take j))).1 ∧ i = .int .i64 j ∧ Hid (Below w0.heap.size w0 wr)) (fun _ _ i _ => s.names.length - (intOf i).toNat)
          case atStart => exact ⟨0, Nat.zero_le _, by rw [List.take_zero, show pmax host [] = 0 from rfl, inn_zero], by rw [List.take_zero, show pmax host [] = 0 from rfl, inn_zero], rfl, hbel⟩
          case round =>
            clear q0 hbel
            obtain ⟨j, hj, rfl, rfl, rfl, hbel2⟩ := hrel
            have q0 := (hbel2.out.cell (p := ⟨w.heap.size, 5, none⟩) hl0).trans HQ0.out
            obtain ⟨b, off, na, nc, la, lc, rfl, hbl, c0, c1, c2, hnm, -⟩ := SrvsAt.get (HL0.out.below hbel2.out) HS.out
            have hpm := pmax_le host 9223372036854775807 (s.names.take j) (fun n hn => HO.out.names n (List.mem_of_mem_take hn))
            have hib := inn_bd p k (pmax host (s.names.take j)) hki hb1 hb2
            by_cases hjn : j < s.names.length
            · obtain ⟨n, hn⟩ : ∃ n, s.names[j]? = some n := ⟨s.names[j], List.getElem?_eq_getElem _⟩
              obtain ⟨b2, off2, rfl, hbl2, d0⟩ := NamesAt.get hnm hn
              have hnz := HO.out.names n (List.mem_of_getElem? hn)
              have hpt := pmax_take host s.names j n hn
              have his := inn_step p k (pmax host (s.names.take j)) (pat n host)
              rw [← hpt] at his
              have hple := pat_le n host
              have HIS := Lib.hid his
              have HHN := Lib.hid hn
              clear hn hnm c1 c2 hpt his
              generalize inn p k (pmax host (s.names.take j)) = r at *
              go_wp2_with fail
              refine (wild_any n host _ hnz hh).mono ?_
              rintro e w' ⟨rfl, hb2⟩
              have HB2 := Lib.hid (hbel2.out.trans (hb2.mono hbel2.out.size))
              clear hb2 c0 d0 q0
              by_cases hgt : r.2 < pat n host
              · have HI2 := Lib.hid (HIS.out.trans (if_pos hgt))
                generalize pat n host = t at *
                go_wp2
                go_roundw
                case rel => exact ⟨j + 1, by omega, by rw [HI2.out], by rw [HI2.out], by go_num, HB2⟩
                case measure => simp [intOf]; omega
              · have HI2 := Lib.hid (HIS.out.trans (if_neg hgt))
                generalize pat n host = t at *
                go_wp2
                go_roundw
                case rel => exact ⟨j + 1, by omega, by rw [HI2.out], by rw [HI2.out], by go_num, HB2⟩
                case measure => simp [intOf]; omega
            · obtain rfl : j = s.names.length := by omega
              have hen : inn p k (pmax host (s.names.take s.names.length)) = stt R (k + 1) := by
                rw [List.take_length, HST.out]; rfl
              have HEN := Lib.hid hen
              clear hnm c1 c2 hen
              generalize inn p k (pmax host (s.names.take s.names.length)) = r at *
              go_wp2
              go_roundw
              case rel => exact ⟨k + 1, by omega, by rw [HEN.out], by rw [HEN.out], by go_num, hbel2⟩
              case measure => simp [intOf]; omega
        · obtain rfl : N = k := by omega
          have hst : stt R N = bst R 0 (-1, 0) := stt_end R N (by rw [HLL.out]; exact Nat.le_refl _)
          have hbe2 : (stt R N).1 = best R := by rw [hst, HBE.out]
          rw [hbe2] at hbd ⊢
          have HBR := Lib.hid hbe2
          generalize (stt R N).2 = topv at *
          clear hlt hk hst hbe2
          by_cases hpos : 0 ≤ best R
          · have hRl := HLL.out
            have HFI := Lib.hid (HSP.out (by have := HN.out; omega) HEQ.out hpos)
            have hd : decide (0 ≤ best R) = true := by simp; omega
            clear hRl
            go_wp2_with fail
            go_ret2
            exact ⟨by rw [HFI.out]; rfl, HB0.out.trans (hbel.out.mono HB0.out.size)⟩
          · have hneg : best R < 0 := by omega
            have hd : decide (0 ≤ best R) = false := by simp; omega
            have HNEG := Lib.hid hneg
            clear hpos hneg
            go_wp2_with fail
            go_loopw [13] (fun i wr => ∃ k : Nat, k ≤ N ∧ i = .int .i64 k ∧ Hid (Below w0.heap.size w0 wr) ∧ Hid (∀ (i : Nat) x, i < k → L[i]? = some x → x.dflt = false)) (fun i _ => N - (intOf i).toNat)
            case atStart => exact ⟨0, Nat.zero_le _, rfl, hbel, Lib.hid (fun i x hi => by omega)⟩
            case round =>
              clear q0 hbel
              obtain ⟨k, hk, rfl, hbel, hnd⟩ := hrel
              have q0 := (hbel.out.cell (p := ⟨w.heap.size, 5, none⟩) hl0).trans HQ0.out
              by_cases hlt : k < N
              · obtain ⟨s, hs⟩ : ∃ s, L[k]? = some s := ⟨L[k]'(by have := HN.out; omega), List.getElem?_eq_getElem _⟩
                obtain ⟨b, off, na, nc, la, lc, rfl, hbl, c0, c1, c2, hnm, -⟩ := SrvsAt.get (HL0.out.below hbel.out) hs
                cases hq : s.dflt with
                | true =>
                  rw [hq] at c1
                  have HFI := Lib.hid (HSD.out k (by have := HN.out; omega) HEQ.out HNEG.out (best_def hs hq hnd.out))
                  clear hq hs hnm c0 c2
                  go_wp2_with fail
                  go_ret2
                  exact ⟨by rw [HFI.out]; rfl, HB0.out.trans (hbel.out.mono HB0.out.size)⟩
                | false =>
                  rw [hq] at c1
                  have HNX : Hid (∀ (i : Nat) x, i < k + 1 → L[i]? = some x → x.dflt = false) := fun i x hi hx => by
                    by_cases e : i = k
                    · subst e; rw [hs] at hx; cases hx; exact hq
                    · exact hnd.out i x (by omega) hx
                  clear hq hs hnm c0 c2
                  go_wp2_with fail
                  go_roundw
                  case rel => exact ⟨k + 1, by omega, by go_num, hbel, HNX⟩
                  case measure => simp [intOf]; omega
              · obtain rfl : N = k := by omega
                have hnod := best_nodef (L := L) fun i x hx => hnd.out i x (by have := (List.getElem?_eq_some_iff.1 hx).1; have := HN.out; omega) hx
                by_cases hz : N = 0
                · have dz : ((N : Int) == 0) = true := by simp; omega
                  have HFI := Lib.hid (srvOf_nil host L (by have := HN.out; omega))
                  clear hz hnod
                  go_wp2_with fail
                  go_ret2
                  exact ⟨by rw [HFI.out]; rfl, HB0.out.trans (hbel.out.mono HB0.out.size)⟩
                · have dz : ((N : Int) == 0) = false := by simp; omega
                  have HFI := Lib.hid (HSN.out (by have := HN.out; omega) HEQ.out HNEG.out hnod)
                  clear hz hnod
                  go_wp2_with fail
                  go_ret2
                  exact ⟨by rw [HFI.out]; rfl, HB0.out.trans (hbel.out.mono HB0.out.size)⟩

set_option maxHeartbeats 2000000 in
set_option maxRecDepth 100000 in
theorem refFind_any (host path : ByteArray) (k0 k1 k2 k3 : Int) (ua sa : Option Addr) (un uc sc : Nat) (L : List Srv) (w : World) (hh : host.size ≤ 9223372036854775807) (hp1 : path.size ≤ 4611686018427387904) (hL : SrvsAt w sa L) (hlen : L.length ≤ 9223372036854775806) (hok : ∀ s ∈ L, SrvOk s) :
    Calls Try.prog 11 #[.agg #[.int .i64 k0, .int .i64 k1, .int .i64 k2, .int .i64 k3, .slice ua un uc, .slice sa L.length sc], .string host, .string path] w fun e w' => e = .returned (.tuple #[.int .i64 (findOf host path L).1, .int .i64 (findOf host path L).2.1, .int .i64 (findOf host path L).2.2]) ∧ Below w.heap.size w w' := by
  have hbel0 : Below w.heap.size w (w.alloc (.cells #[.int .i64 k0, .int .i64 k1, .int .i64 k2, .int .i64 k3, .slice ua un uc, .slice sa L.length sc] 25)) := (Below.refl _ w).alloc (Nat.le_refl _) _
  have hsv := refServer_any host k0 k1 k2 k3 ua sa un uc sc L _ hh (hL.below hbel0) hlen hok
  have HSV := Lib.hid hsv
  have HL := Lib.hid hL
  have HOK := Lib.hid hok
  clear hsv hL hok
  by_cases hz : L.length = 0
  · have hf : findOf host path L = (0, 0, 61) := by
      have : L = [] := List.length_eq_zero_iff.1 hz
      subst this; rfl
    have hs := srvOf_nil host L hz
    rw [hf]
    have HS := Lib.hid hs
    have HZ := Lib.hid hz
    have HB0 := Lib.hid hbel0
    clear hs hz hf hbel0
    go_enter Try.func11, Try.ntmps11
    go_wp2_with fail
    refine HSV.out.mono ?_
    rintro e w1 ⟨rfl, hb1⟩
    rw [HS.out]
    have HB1 := Lib.hid (HB0.out.trans (hb1.mono HB0.out.size))
    clear hb1
    go_wp2_with fail
    go_ret3
    exact ⟨rfl, HB1.out⟩
  · obtain ⟨i, hi⟩ : ∃ i, i = srvN host L := ⟨_, rfl⟩
    have hlt := srvN_lt host L hz
    rw [← hi] at hlt
    obtain ⟨s, hs⟩ : ∃ s, L[i]? = some s := ⟨L[i], List.getElem?_eq_getElem _⟩
    have hf : findOf host path L = if locAt path s.locs < 0 then (0, 0, 61) else ((i : Int), locAt path s.locs, 0) := by
      unfold findOf; rw [← hi, hs]
    have hso := srvOf_some host L hz
    rw [← hi] at hso
    have hq0 : (w.alloc (.cells #[.int .i64 k0, .int .i64 k1, .int .i64 k2, .int .i64 k3, .slice ua un uc, .slice sa L.length sc] 25)).cell? ⟨w.heap.size, 5, none⟩ = some (.slice sa L.length sc) := by simp
    have hz0 : w.heap.size < (w.alloc (.cells #[.int .i64 k0, .int .i64 k1, .int .i64 k2, .int .i64 k3, .slice ua un uc, .slice sa L.length sc] 25)).heap.size := by simp
    have HQ := Lib.hid (And.intro hq0 hz0)
    have HSO := Lib.hid hso
    have HFF := Lib.hid hf
    have HS := Lib.hid hs
    have HI := Lib.hid hi
    have HB0 := Lib.hid hbel0
    have HSK := Lib.hid (HOK.out s (List.mem_of_getElem? hs))
    clear hso hf hs hi hq0 hz0 hbel0
    go_enter Try.func11, Try.ntmps11
    go_wp2_with fail
    refine HSV.out.mono ?_
    rintro e w1 ⟨rfl, hb1⟩
    rw [HSO.out]
    have q0 := (hb1.cell (p := ⟨w.heap.size, 5, none⟩) HQ.out.2).trans HQ.out.1
    have HB1 := Lib.hid (HB0.out.trans (hb1.mono HB0.out.size))
    obtain ⟨b, off, na, nc, la, lc, rfl, hbl, c0, c1, c2, hnm, hlc⟩ := SrvsAt.get (HL.out.below HB1.out) HS.out
    have hll := HSK.out.llen
    have hlo := refLocation_any path na la s.names.length nc lc s.dflt s.locs w1 hp1 hlc hll
    have HLO := Lib.hid hlo
    clear hb1 hlo hnm hlc
    by_cases hneg : locAt path s.locs < 0
    · have hd : decide (0 ≤ locAt path s.locs) = false := by simp; omega
      have HF2 := Lib.hid (HFF.out.trans (if_pos hneg))
      clear hneg
      go_wp2_with fail
      refine HLO.out.mono ?_
      rintro e w2 ⟨rfl, hb2⟩
      have HB2 := Lib.hid (HB1.out.trans (hb2.mono HB1.out.size))
      unfold locOf
      clear hb2
      go_wp2_with fail
      go_ret3
      exact ⟨by rw [HF2.out]; rfl, HB2.out⟩
    · have hd : decide (0 ≤ locAt path s.locs) = true := by simp; omega
      have hmx : max (locAt path s.locs) 0 = locAt path s.locs := by omega
      have HF2 := Lib.hid (HFF.out.trans (if_neg hneg))
      clear hneg
      go_wp2_with fail
      refine HLO.out.mono ?_
      rintro e w2 ⟨rfl, hb2⟩
      have HB2 := Lib.hid (HB1.out.trans (hb2.mono HB1.out.size))
      unfold locOf
      rw [hmx]
      clear hb2 hmx
      go_wp2_with fail
      go_ret3
      exact ⟨by rw [HF2.out]; rfl, HB2.out⟩
end Go.Proofs.Ytlaoeciflifggaa.Rt
