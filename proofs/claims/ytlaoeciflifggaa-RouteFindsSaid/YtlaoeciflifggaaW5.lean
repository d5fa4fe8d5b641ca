/- RouteNames answers true. -/
import Derived.Test.YtlaoeciflifggaaNmP
import Derived.Test.YtlaoeciflifggaaCfg
import Derived.Deep.CutBlock
set_option linter.unusedVariables false
namespace Go.Proofs.Ytlaoeciflifggaa.Rt
open Go.RowKit
open Go.Lib hiding intOf

theorem draw_cell {w w9 : World} {q : Nat} {a : Addr} {v : Value} (hb : Below (w.drewN q).drew.heap.size (w.drewN q).drew w9) (h : a.block < w.heap.size) (hc : w.cell? a = some v) : w9.cell? a = some v :=
  (hb.cell (p := a) h).trans hc
theorem draw_below {w w6 w9 : World} {q : Nat} (h : Below w.heap.size w w6) (hb : Below (w6.drewN q).drew.heap.size (w6.drewN q).drew w9) : Below w.heap.size w w9 :=
  h.trans (((belowN (Below.refl _ w6)).drew.trans hb).mono h.size)
theorem strEq (n host : ByteArray) : (n.toList == host.toList) = decide (n = host) := beq_str n host

set_option maxHeartbeats 4000000 in
set_option maxRecDepth 100000 in
theorem walk5_some (host big : ByteArray) (k0 k1 k2 k3 : Int) (ua sa : Option Addr) (uc sc : Nat) (U : List Ups) (L : List Srv) (w : World) (h : CfgArg w ua sa U L) (hh : host.size ≤ 9223372036854775807) (hbg : big.size ≤ 9223372036854775807) (hz : L.length ≠ 0) :
    Calls Try.prog 5 #[.agg #[.int .i64 k0, .int .i64 k1, .int .i64 k2, .int .i64 k3, .slice ua U.length uc, .slice sa L.length sc], .string host, .string big] w (BoolBelow true w) := by
  have H := Lib.hid h
  have hsl := h.slen
  have hso := srvOf_some host L hz
  have hsn := srvN_lt host L hz
  have HZ := Lib.hid hz
  obtain ⟨A, hA⟩ : ∃ A, A = srvN host L := ⟨_, rfl⟩
  rw [← hA] at hso hsn
  have HA := Lib.hid hA
  have HSO := Lib.hid hso
  clear h hz hA hso
  go_enter Try.func5, Try.ntmps5
  go_wp2_with fail
  have hb0 : Below w.heap.size w (w.alloc (.cells #[.int .i64 k0, .int .i64 k1, .int .i64 k2, .int .i64 k3, .slice ua U.length uc, .slice sa L.length sc] 25)) := (Below.refl _ w).alloc (Nat.le_refl _) _
  have hst : Stand w (w.alloc (.cells #[.int .i64 k0, .int .i64 k1, .int .i64 k2, .int .i64 k3, .slice ua U.length uc, .slice sa L.length sc] 25)) k0 k1 k2 k3 ua sa uc sc U L := ⟨heap_alloc_new _ _, hb0⟩
  generalize (w.alloc (.cells #[.int .i64 k0, .int .i64 k1, .int .i64 k2, .int .i64 k3, .slice ua U.length uc, .slice sa L.length sc] 25)) = w1 at hb0 hst ⊢
  have HST := Lib.hid hst
  have HB0 := Lib.hid hb0
  clear hst hb0
  refine (own_any k0 k1 k2 k3 ua sa uc sc U L w1 (H.out.ups.below HB0.out) (H.out.srvs.below HB0.out) H.out.ulen hsl H.out.uok H.out.sfit).mono ?_
  intro e w2 h2
  obtain ⟨ua2, uc2, sa2, sc2, rfl, hb2, _, hs2⟩ := own_reads h2
  have HS2 := Lib.hid hs2
  have HST2 := Lib.hid (HST.out.later hb2)
  clear h2 hb2 hs2
  go_wp2_with fail
  have hx := heap_alloc_new w2 (.cells #[.int .i64 k0, .int .i64 k1, .int .i64 k2, .int .i64 k3, .slice ua2 U.length uc2, .slice sa2 L.length sc2] 29)
  have hb3 : Below w2.heap.size w2 (w2.alloc (.cells #[.int .i64 k0, .int .i64 k1, .int .i64 k2, .int .i64 k3, .slice ua2 U.length uc2, .slice sa2 L.length sc2] 29)) := (Below.refl _ _).alloc (Nat.le_refl _) _
  generalize (w2.alloc (.cells #[.int .i64 k0, .int .i64 k1, .int .i64 k2, .int .i64 k3, .slice ua2 U.length uc2, .slice sa2 L.length sc2] 29)) = w3 at hx hb3 ⊢
  have HX := Lib.hid hx
  have HST3 := Lib.hid (HST2.out.later hb3)
  have HS3 := Lib.hid (HS2.out.below hb3)
  clear hx hb3
  refine (server_any host k0 k1 k2 k3 ua2 sa2 U.length uc2 sc2 L w3 hh HS3.out (by omega) H.out.sok).mono ?_
  rintro e w4 ⟨rfl, hb4⟩
  rw [HSO.out]
  have hx4 := (hb4.block w2.heap.size (Array.getElem?_eq_some_iff.1 HX.out).1).trans HX.out
  have HX4 := Lib.hid hx4
  have HST4 := Lib.hid (HST3.out.later hb4)
  have HS4 := Lib.hid (HS3.out.below hb4)
  clear hb4 hx4
  go_wp2_with fail
  refine (equal_any host big _ hh hbg).mono ?_
  rintro e w5 ⟨rfl, hb5⟩
  have hx5 := (hb5.block w2.heap.size (Array.getElem?_eq_some_iff.1 HX4.out).1).trans HX4.out
  have HX5 := Lib.hid hx5
  have HST5 := Lib.hid (HST4.out.later hb5)
  have HS5 := Lib.hid (HS4.out.below hb5)
  clear hb5 hx5
  obtain ⟨o0, o1, o2, o3, o4, o5, -⟩ := cells6c HX5.out
  go_upto_if 24 with fail
  go_cut [10, 11] from 24 to 40 (fun s10 s11 wc => Stand w wc k0 k1 k2 k3 ua sa uc sc U L)
  case first =>
    cases hq : eqf host big with
    | true =>
      have hcg := srvOf_congr hq L
      have HCG := Lib.hid (hcg.symm.trans HSO.out)
      clear hcg hq
      go_wp2_with fail
      refine (server_any big k0 k1 k2 k3 ua2 sa2 U.length uc2 sc2 L w5 hbg HS5.out (by omega) H.out.sok).mono ?_
      rintro e w6 ⟨rfl, hb6⟩
      rw [HCG.out]
      have HST6 := Lib.hid (HST5.out.later hb6)
      clear hb6 o0 o1 o2 o3 o4 o5
      go_wp2_with (go_at_call 12; refine (num_any 0 _ (by omega) (by omega)).mono ?_; rintro e w' ⟨rfl, rfl⟩)
      go_meet
      exact HST6.out
    | false =>
      clear hq
      go_wp2_with fail
      go_meet
      exact HST5.out
  case rest =>
    have HST6 := Lib.hid hcut
    have hb6 := hcut.below
    have hwl : w.heap.size < wc.heap.size := (Array.getElem?_eq_some_iff.1 hcut.box).1
    clear hcut o0 o1 o2 o3 o4 o5
    rename World => w6
    have HB6 := Lib.hid hb6
    clear hb6
    go_wp2_with fail
    go_loopw [12] (fun i wr => ∃ k q : Nat, k ≤ L.length ∧ i = .int .i64 k ∧ wr = w6.drewN q) (fun i _ => L.length - (intOf i).toNat)
    case atStart => exact ⟨0, 0, Nat.zero_le _, rfl, rfl⟩
    case round =>
      obtain ⟨k, q, hk, rfl, rfl⟩ := hrel
      obtain ⟨o0, o1, o2, o3, o4, o5, -⟩ := cells6c HST6.out.box
      by_cases hlt : k < L.length
      · obtain ⟨s, hs⟩ : ∃ s, L[k]? = some s := ⟨L[k], List.getElem?_eq_getElem _⟩
        obtain ⟨b, off, na, nc, la, lc, rfl, hbl, c0, c1, c2, hnm, -⟩ := SrvsAt.get (H.out.srvs.below HB6.out) hs
        have hnl := (H.out.sok s (List.mem_of_getElem? hs)).nlen
        have HS := Lib.hid hs
        have HNM := Lib.hid hnm
        clear hs hnm
        go_wp2_with fail
        obtain ⟨w7, hw7⟩ : ∃ w7, w7 = w6.drewN q := ⟨_, rfl⟩
        rw [← hw7]
        have HW7 := Lib.hid hw7
        clear hw7
        go_loopw [13] (fun i wr => ∃ j q2 : Nat, j ≤ s.names.length ∧ i = .int .i64 j ∧ wr = w7.drewN q2) (fun i _ => s.names.length - (intOf i).toNat)
        case atStart => exact ⟨0, 0, Nat.zero_le _, rfl, rfl⟩
        case round =>
          obtain ⟨j, q2, hj, rfl, rfl⟩ := hrel
          have e5 : w7.cell? ⟨w.heap.size, 5, none⟩ = some (.slice (some ⟨b, off, none⟩) L.length sc) := by rw [HW7.out, World.cell?_drewN]; exact o5
          have d0 : w7.cell? ⟨b, off + k * 3, none⟩ = some (.slice na s.names.length nc) := by rw [HW7.out, World.cell?_drewN]; exact c0
          by_cases hjn : j < s.names.length
          · obtain ⟨n, hn⟩ : ∃ n, s.names[j]? = some n := ⟨s.names[j], List.getElem?_eq_getElem _⟩
            obtain ⟨b2, off2, rfl, hbl2, f0⟩ := NamesAt.get HNM.out hn
            have g0 : w7.cell? ⟨b2, off2 + j, none⟩ = some (.string n) := by rw [HW7.out, World.cell?_drewN]; exact f0
            have hse := strEq n host
            have HN := Lib.hid hn
            clear hn f0
            by_cases heq : n = host
            · have hle := srvN_le HS.out HN.out heq
              rw [← HA.out] at hle
              rw [decide_eq_true heq] at hse
              have hd : decide (A ≤ k) = true := by simp; omega
              have hd2 : decide ((A : Int) ≤ (k : Int)) = true := by simp; omega
              clear heq
              go_wp2_with fail
              refine (num_any 0 _ (by omega) (by omega)).mono ?_
              rintro e w' ⟨rfl, rfl⟩
              go_wp2_with fail
              refine (knows_any _).mono ?_
              rintro e w9 ⟨rfl, hb9⟩
              have hb8 : Below w.heap.size w (w7.drewN q2) := by rw [HW7.out]; exact belowN (belowN HB6.out)
              have HB9 := Lib.hid (hb8.trans (hb9.mono hb8.size))
              clear hb8 hb9
              go_wp2_with fail
              go_ret
              exact ⟨rfl, HB9.out⟩
            · rw [decide_eq_false heq] at hse
              clear heq
              go_wp2_with fail
              go_roundw
              case rel => exact ⟨j + 1, q2, by omega, by go_num, rfl⟩
              case measure => simp [intOf]; omega
          · obtain rfl : j = s.names.length := by omega
            go_wp2_with fail
            go_roundw
            case rel => exact ⟨k + 1, q + q2, by omega, by go_num, by rw [HW7.out]; simp [World.drewN_drewN]⟩
            case measure => simp [intOf]; omega
      · obtain rfl : k = L.length := by omega
        have hlz : decide (0 < L.length) = true := decide_eq_true (by have := HZ.out; omega)
        have hlz2 : decide ((0 : Int) < (L.length : Int)) = true := decide_eq_true (by have := HZ.out; omega)
        go_wp2_with fail
        go_region_held3 (fun w' => w'.cell? ⟨w.heap.size, 5, none⟩ = some (.slice sa L.length sc)) (go_keep)
          (first | (go_at_call 12; refine (num_any 0 _ (by omega) (by omega)).mono ?_; rintro e w' ⟨rfl, rfl⟩) | (go_at_call 16; refine (knows_any _).mono ?_; rintro e w9 ⟨rfl, hb9⟩; have o9 : w9.cell? ⟨w.heap.size, 5, none⟩ = some (.slice sa L.length sc) := draw_cell hb9 hwl o5; have HB9 := Lib.hid (draw_below HB6.out hb9); clear hb9))
        go_wp2_with fail
        go_ret
        exact ⟨rfl, HB9.out⟩
set_option maxHeartbeats 4000000 in
set_option maxRecDepth 100000 in
theorem walk5_nil (host big : ByteArray) (k0 k1 k2 k3 : Int) (ua sa : Option Addr) (uc sc : Nat) (U : List Ups) (L : List Srv) (w : World) (h : CfgArg w ua sa U L) (hh : host.size ≤ 9223372036854775807) (hbg : big.size ≤ 9223372036854775807) (hz : L.length = 0) :
    Calls Try.prog 5 #[.agg #[.int .i64 k0, .int .i64 k1, .int .i64 k2, .int .i64 k3, .slice ua U.length uc, .slice sa L.length sc], .string host, .string big] w (BoolBelow true w) := by
  have H := Lib.hid h
  have hsl := h.slen
  have hso := srvOf_nil host L hz
  have HZ := Lib.hid hz
  have HSO := Lib.hid hso
  clear h hz hso
  go_enter Try.func5, Try.ntmps5
  go_wp2_with fail
  have hb0 : Below w.heap.size w (w.alloc (.cells #[.int .i64 k0, .int .i64 k1, .int .i64 k2, .int .i64 k3, .slice ua U.length uc, .slice sa L.length sc] 25)) := (Below.refl _ w).alloc (Nat.le_refl _) _
  have hst : Stand w (w.alloc (.cells #[.int .i64 k0, .int .i64 k1, .int .i64 k2, .int .i64 k3, .slice ua U.length uc, .slice sa L.length sc] 25)) k0 k1 k2 k3 ua sa uc sc U L := ⟨heap_alloc_new _ _, hb0⟩
  generalize (w.alloc (.cells #[.int .i64 k0, .int .i64 k1, .int .i64 k2, .int .i64 k3, .slice ua U.length uc, .slice sa L.length sc] 25)) = w1 at hb0 hst ⊢
  have HST := Lib.hid hst
  have HB0 := Lib.hid hb0
  clear hst hb0
  refine (own_any k0 k1 k2 k3 ua sa uc sc U L w1 (H.out.ups.below HB0.out) (H.out.srvs.below HB0.out) H.out.ulen hsl H.out.uok H.out.sfit).mono ?_
  intro e w2 h2
  obtain ⟨ua2, uc2, sa2, sc2, rfl, hb2, _, hs2⟩ := own_reads h2
  have HS2 := Lib.hid hs2
  have HST2 := Lib.hid (HST.out.later hb2)
  clear h2 hb2 hs2
  go_wp2_with fail
  have hx := heap_alloc_new w2 (.cells #[.int .i64 k0, .int .i64 k1, .int .i64 k2, .int .i64 k3, .slice ua2 U.length uc2, .slice sa2 L.length sc2] 29)
  have hb3 : Below w2.heap.size w2 (w2.alloc (.cells #[.int .i64 k0, .int .i64 k1, .int .i64 k2, .int .i64 k3, .slice ua2 U.length uc2, .slice sa2 L.length sc2] 29)) := (Below.refl _ _).alloc (Nat.le_refl _) _
  generalize (w2.alloc (.cells #[.int .i64 k0, .int .i64 k1, .int .i64 k2, .int .i64 k3, .slice ua2 U.length uc2, .slice sa2 L.length sc2] 29)) = w3 at hx hb3 ⊢
  have HX := Lib.hid hx
  have HST3 := Lib.hid (HST2.out.later hb3)
  have HS3 := Lib.hid (HS2.out.below hb3)
  clear hx hb3
  refine (server_any host k0 k1 k2 k3 ua2 sa2 U.length uc2 sc2 L w3 hh HS3.out (by omega) H.out.sok).mono ?_
  rintro e w4 ⟨rfl, hb4⟩
  rw [HSO.out]
  have hx4 := (hb4.block w2.heap.size (Array.getElem?_eq_some_iff.1 HX.out).1).trans HX.out
  have HX4 := Lib.hid hx4
  have HST4 := Lib.hid (HST3.out.later hb4)
  have HS4 := Lib.hid (HS3.out.below hb4)
  clear hb4 hx4
  go_wp2_with fail
  refine (equal_any host big _ hh hbg).mono ?_
  rintro e w5 ⟨rfl, hb5⟩
  have hx5 := (hb5.block w2.heap.size (Array.getElem?_eq_some_iff.1 HX4.out).1).trans HX4.out
  have HX5 := Lib.hid hx5
  have HST5 := Lib.hid (HST4.out.later hb5)
  have HS5 := Lib.hid (HS4.out.below hb5)
  clear hb5 hx5
  obtain ⟨o0, o1, o2, o3, o4, o5, -⟩ := cells6c HX5.out
  go_upto_if 24 with fail
  go_cut [10, 11] from 24 to 40 (fun s10 s11 wc => Stand w wc k0 k1 k2 k3 ua sa uc sc U L)
  case first =>
    cases hq : eqf host big with
    | true =>
      have hcg := srvOf_congr hq L
      have HCG := Lib.hid (hcg.symm.trans HSO.out)
      clear hcg hq
      go_wp2_with fail
      refine (server_any big k0 k1 k2 k3 ua2 sa2 U.length uc2 sc2 L w5 hbg HS5.out (by omega) H.out.sok).mono ?_
      rintro e w6 ⟨rfl, hb6⟩
      rw [HCG.out]
      have HST6 := Lib.hid (HST5.out.later hb6)
      clear hb6 o0 o1 o2 o3 o4 o5
      go_wp2_with (go_at_call 12; refine (num_any 61 _ (by omega) (by omega)).mono ?_; rintro e w' ⟨rfl, rfl⟩)
      go_meet
      exact HST6.out
    | false =>
      clear hq
      go_wp2_with fail
      go_meet
      exact HST5.out
  case rest =>
    have HST6 := Lib.hid hcut
    have hb6 := hcut.below
    have hwl : w.heap.size < wc.heap.size := (Array.getElem?_eq_some_iff.1 hcut.box).1
    clear hcut o0 o1 o2 o3 o4 o5
    rename World => w6
    have HB6 := Lib.hid hb6
    clear hb6
    go_wp2_with fail
    go_loopw [12] (fun i wr => ∃ k q : Nat, k ≤ L.length ∧ i = .int .i64 k ∧ wr = w6.drewN q) (fun i _ => L.length - (intOf i).toNat)
    case atStart => exact ⟨0, 0, Nat.zero_le _, rfl, rfl⟩
    case round =>
      obtain ⟨k, q, hk, rfl, rfl⟩ := hrel
      obtain ⟨o0, o1, o2, o3, o4, o5, -⟩ := cells6c HST6.out.box
      obtain rfl : k = L.length := by have := HZ.out; omega
      have hlz : decide (0 < L.length) = false := decide_eq_false (by have := HZ.out; omega)
      have hlz2 : decide ((0 : Int) < (L.length : Int)) = false := decide_eq_false (by have := HZ.out; omega)
      go_wp2_with fail
      go_region_held3 (fun w' => w'.cell? ⟨w.heap.size, 5, none⟩ = some (.slice sa L.length sc)) (go_keep)
        (first | (go_at_call 12; refine (num_any 61 _ (by omega) (by omega)).mono ?_; rintro e w' ⟨rfl, rfl⟩) | (go_at_call 16; refine (knows_any _).mono ?_; rintro e w9 ⟨rfl, hb9⟩; have o9 : w9.cell? ⟨w.heap.size, 5, none⟩ = some (.slice sa L.length sc) := draw_cell hb9 hwl o5; have HB9 := Lib.hid (draw_below HB6.out hb9); clear hb9))
      go_wp2_with fail
      go_ret
      exact ⟨rfl, HB9.out⟩

theorem walk5 (host big : ByteArray) (k0 k1 k2 k3 : Int) (ua sa : Option Addr) (uc sc : Nat) (U : List Ups) (L : List Srv) (w : World) (h : CfgArg w ua sa U L) (hh : host.size ≤ 9223372036854775807) (hbg : big.size ≤ 9223372036854775807) :
    Calls Try.prog 5 #[.agg #[.int .i64 k0, .int .i64 k1, .int .i64 k2, .int .i64 k3, .slice ua U.length uc, .slice sa L.length sc], .string host, .string big] w (BoolBelow true w) := by
  by_cases hz : L.length = 0
  · exact walk5_nil host big k0 k1 k2 k3 ua sa uc sc U L w h hh hbg hz
  · exact walk5_some host big k0 k1 k2 k3 ua sa uc sc U L w h hh hbg hz
end Go.Proofs.Ytlaoeciflifggaa.Rt
