/- RouteFinds answers true. -/
import Derived.Test.YtlaoeciflifggaaSm
import Derived.Test.YtlaoeciflifggaaW5
set_option linter.unusedVariables false
namespace Go.Proofs.Ytlaoeciflifggaa.Rt
open Go.RowKit
open Go.Lib hiding intOf

theorem srvOf_code (host : ByteArray) (L : List Srv) : ∃ A E, srvOf host L = (A, E) ∧ 0 ≤ E ∧ E ≤ 61 := by
  by_cases h : L.length = 0
  · exact ⟨0, 61, srvOf_nil host L h, by omega, by omega⟩
  · exact ⟨_, 0, srvOf_some host L h, by omega, by omega⟩
theorem findOf_code (host path : ByteArray) (L : List Srv) : ∃ P Q R, findOf host path L = (P, Q, R) ∧ 0 ≤ R ∧ R ≤ 61 := by
  unfold findOf
  cases L[srvN host L]? with
  | none => exact ⟨_, _, _, rfl, by omega, by omega⟩
  | some s =>
    by_cases h : locAt path s.locs < 0
    · simp only [if_pos h]; exact ⟨_, _, _, rfl, by omega, by omega⟩
    · simp only [if_neg h]; exact ⟨_, _, _, rfl, by omega, by omega⟩

/-- where RouteFinds stands: both configurations lie as they were laid -/
structure Both (w w0 wr : World) (xb : Nat) (k0 k1 k2 k3 : Int) (ua sa ua2 sa2 : Option Addr) (uc sc uc2 sc2 : Nat) (U : List Ups) (L : List Srv) : Prop where
  st : Stand w wr k0 k1 k2 k3 ua sa uc sc U L
  box : wr.heap[xb]? = some (.cells #[.int .i64 k0, .int .i64 k1, .int .i64 k2, .int .i64 k3, .slice ua2 U.length uc2, .slice sa2 L.length sc2] 29 (0, 0))
  ups : UpssAt wr ua2 U
  srvs : SrvsAt wr sa2 L
theorem Both.later {w w0 wr w' : World} {xb : Nat} {k0 k1 k2 k3 : Int} {ua sa ua2 sa2 : Option Addr} {uc sc uc2 sc2 : Nat} {U : List Ups} {L : List Srv} (h : Both w w0 wr xb k0 k1 k2 k3 ua sa ua2 sa2 uc sc uc2 sc2 U L) (hb : Below wr.heap.size wr w') : Both w w0 w' xb k0 k1 k2 k3 ua sa ua2 sa2 uc sc uc2 sc2 U L :=
  ⟨h.st.later hb, (hb.block xb (Array.getElem?_eq_some_iff.1 h.box).1).trans h.box, h.ups.below hb, h.srvs.below hb⟩
theorem Both.cells {w w0 wr : World} {xb : Nat} {k0 k1 k2 k3 : Int} {ua sa ua2 sa2 : Option Addr} {uc sc uc2 sc2 : Nat} {U : List Ups} {L : List Srv} (h : Both w w0 wr xb k0 k1 k2 k3 ua sa ua2 sa2 uc sc uc2 sc2 U L) :
    (wr.cell? ⟨w.heap.size, 0, none⟩ = some (.int .i64 k0) ∧ wr.cell? ⟨w.heap.size, 1, none⟩ = some (.int .i64 k1) ∧ wr.cell? ⟨w.heap.size, 2, none⟩ = some (.int .i64 k2) ∧ wr.cell? ⟨w.heap.size, 3, none⟩ = some (.int .i64 k3) ∧ wr.cell? ⟨w.heap.size, 4, none⟩ = some (.slice ua U.length uc) ∧ wr.cell? ⟨w.heap.size, 5, none⟩ = some (.slice sa L.length sc)) ∧
    (wr.cell? ⟨xb, 0, none⟩ = some (.int .i64 k0) ∧ wr.cell? ⟨xb, 1, none⟩ = some (.int .i64 k1) ∧ wr.cell? ⟨xb, 2, none⟩ = some (.int .i64 k2) ∧ wr.cell? ⟨xb, 3, none⟩ = some (.int .i64 k3) ∧ wr.cell? ⟨xb, 4, none⟩ = some (.slice ua2 U.length uc2) ∧ wr.cell? ⟨xb, 5, none⟩ = some (.slice sa2 L.length sc2)) := by
  obtain ⟨a0, a1, a2, a3, a4, a5, -⟩ := cells6c h.st.box
  obtain ⟨b0, b1, b2, b3, b4, b5, -⟩ := cells6c h.box
  exact ⟨⟨a0, a1, a2, a3, a4, a5⟩, b0, b1, b2, b3, b4, b5⟩

set_option maxHeartbeats 8000000 in
set_option maxRecDepth 100000 in
theorem walk3 (host path : ByteArray) (k0 k1 k2 k3 : Int) (ua sa : Option Addr) (uc sc : Nat) (U : List Ups) (L : List Srv) (w : World) (h : CfgArg w ua sa U L) (hh : host.size ≤ 9223372036854775807) (hp1 : path.size ≤ 4611686018427387904) :
    Calls Try.prog 3 #[.agg #[.int .i64 k0, .int .i64 k1, .int .i64 k2, .int .i64 k3, .slice ua U.length uc, .slice sa L.length sc], .string host, .string path] w (BoolBelow true w) := by
  have H := Lib.hid h
  have hsl := h.slen
  have hul := h.ulen
  obtain ⟨A, E, hso, hE0, hE1⟩ := srvOf_code host L
  obtain ⟨P, Q, R, hfo, hR0, hR1⟩ := findOf_code host path L
  have HSO := Lib.hid hso
  have HFO := Lib.hid hfo
  clear h hso hfo
  go_enter Try.func3, Try.ntmps3
  go_wp2_with fail
  have hst : Stand w (w.alloc (.cells #[.int .i64 k0, .int .i64 k1, .int .i64 k2, .int .i64 k3, .slice ua U.length uc, .slice sa L.length sc] 25)) k0 k1 k2 k3 ua sa uc sc U L := ⟨heap_alloc_new _ _, (Below.refl _ w).alloc (Nat.le_refl _) _⟩
  generalize (w.alloc (.cells #[.int .i64 k0, .int .i64 k1, .int .i64 k2, .int .i64 k3, .slice ua U.length uc, .slice sa L.length sc] 25)) = w1 at hst ⊢
  have HST := Lib.hid hst
  clear hst
  refine (own_any k0 k1 k2 k3 ua sa uc sc U L w1 (H.out.ups.below HST.out.below) (H.out.srvs.below HST.out.below) hul hsl H.out.uok H.out.sfit).mono ?_
  intro e w2 h2
  obtain ⟨ua2, uc2, sa2, sc2, rfl, hb2, hu2, hs2⟩ := own_reads h2
  have HST2 := Lib.hid (HST.out.later hb2)
  have HU2 := Lib.hid hu2
  have HS2 := Lib.hid hs2
  clear h2 hb2 hu2 hs2
  go_wp2_with fail
  have hb3 : Below w2.heap.size w2 (w2.alloc (.cells #[.int .i64 k0, .int .i64 k1, .int .i64 k2, .int .i64 k3, .slice ua2 U.length uc2, .slice sa2 L.length sc2] 29)) := (Below.refl _ _).alloc (Nat.le_refl _) _
  have hbo : Both w w2 (w2.alloc (.cells #[.int .i64 k0, .int .i64 k1, .int .i64 k2, .int .i64 k3, .slice ua2 U.length uc2, .slice sa2 L.length sc2] 29)) w2.heap.size k0 k1 k2 k3 ua sa ua2 sa2 uc sc uc2 sc2 U L := ⟨HST2.out.later hb3, heap_alloc_new _ _, HU2.out.below hb3, HS2.out.below hb3⟩
  generalize (w2.alloc (.cells #[.int .i64 k0, .int .i64 k1, .int .i64 k2, .int .i64 k3, .slice ua2 U.length uc2, .slice sa2 L.length sc2] 29)) = w3 at hbo ⊢
  obtain ⟨xb, hxb⟩ : ∃ xb, xb = w2.heap.size := ⟨_, rfl⟩
  rw [← hxb] at hbo ⊢
  have HB3 := Lib.hid hbo
  clear hb3 hbo hxb HST HST2 HU2 HS2
  -- Server
  refine (server_any host k0 k1 k2 k3 ua2 sa2 U.length uc2 sc2 L w3 hh HB3.out.srvs (by omega) H.out.sok).mono ?_
  rintro e w4 ⟨rfl, hb4⟩
  rw [HSO.out]
  have HB4 := Lib.hid (HB3.out.later hb4)
  clear hb4
  obtain ⟨⟨a0, a1, a2, a3, a4, a5⟩, b0, b1, b2, b3, b4, b5⟩ := HB4.out.cells
  go_wp2_with fail
  refine (refServer_any host k0 k1 k2 k3 ua sa U.length uc sc L w4 hh (H.out.srvs.below HB4.out.st.below) (by omega) H.out.sok).mono ?_
  rintro e w5 ⟨rfl, hb5⟩
  rw [HSO.out]
  have HB5 := Lib.hid (HB4.out.later hb5)
  clear hb5 a0 a1 a2 a3 a4 a5 b0 b1 b2 b3 b4 b5
  obtain ⟨⟨a0, a1, a2, a3, a4, a5⟩, b0, b1, b2, b3, b4, b5⟩ := HB5.out.cells
  go_wp2_with fail
  refine (find_any host path k0 k1 k2 k3 ua2 sa2 U.length uc2 sc2 L w5 hh hp1 HB5.out.srvs (by omega) H.out.sok).mono ?_
  rintro e w6 ⟨rfl, hb6⟩
  rw [HFO.out]
  have HB6 := Lib.hid (HB5.out.later hb6)
  clear hb6 a0 a1 a2 a3 a4 a5 b0 b1 b2 b3 b4 b5
  obtain ⟨⟨a0, a1, a2, a3, a4, a5⟩, b0, b1, b2, b3, b4, b5⟩ := HB6.out.cells
  go_wp2_with fail
  refine (refFind_any host path k0 k1 k2 k3 ua sa U.length uc sc L w6 hh hp1 (H.out.srvs.below HB6.out.st.below) (by omega) H.out.sok).mono ?_
  rintro e w7 ⟨rfl, hb7⟩
  rw [HFO.out]
  have HB7 := Lib.hid (HB6.out.later hb7)
  clear hb7 a0 a1 a2 a3 a4 a5 b0 b1 b2 b3 b4 b5
  go_wp2_with fail
  refine (num_any E _ (by omega) (by omega)).mono ?_
  rintro e w8 ⟨rfl, rfl⟩
  go_wp2_with fail
  refine (num_any R _ (by omega) (by omega)).mono ?_
  rintro e w8 ⟨rfl, rfl⟩
  go_wp2_with fail
  go_loopw [18] (fun i wr => ∃ k : Nat, k ≤ L.length ∧ i = .int .i64 k ∧ Hid (Both w w2 wr xb k0 k1 k2 k3 ua sa ua2 sa2 uc sc uc2 sc2 U L)) (fun i _ => L.length - (intOf i).toNat)
  case atStart => exact ⟨0, Nat.zero_le _, rfl, HB7⟩
  case round =>
    obtain ⟨k, hk, rfl, hbo⟩ := hrel
    obtain ⟨⟨a0, a1, a2, a3, a4, a5⟩, b0, b1, b2, b3, b4, b5⟩ := hbo.out.cells
    by_cases hlt : k < L.length
    · obtain ⟨s, hs⟩ : ∃ s, L[k]? = some s := ⟨L[k], List.getElem?_eq_getElem _⟩
      obtain ⟨x1, y1, n1, nc1, l1, lc1, rfl, xl1, c0, c1, c2, -, hl1⟩ := SrvsAt.get hbo.out.srvs hs
      have hll := (H.out.sok s (List.mem_of_getElem? hs)).llen
      have HS := Lib.hid hs
      have HL1 := Lib.hid hl1
      obtain ⟨kv, bv, hkb⟩ : ∃ kv bv, locOf path s.locs = .tuple #[.int .i64 kv, .bool bv] := ⟨_, _, rfl⟩
      have HKB := Lib.hid hkb
      clear hs hl1 hkb
      go_wp2_with fail
      refine (location_any path n1 l1 s.names.length nc1 lc1 s.dflt s.locs wr hp1 HL1.out hll).mono ?_
      rintro e w9 ⟨rfl, hb9⟩
      rw [HKB.out]
      have HB9 := Lib.hid (hbo.out.later hb9)
      clear hb9 a0 a1 a2 a3 a4 a5 b0 b1 b2 b3 b4 b5 c0 c1 c2 xl1
      obtain ⟨⟨a0, a1, a2, a3, a4, a5⟩, b0, b1, b2, b3, b4, b5⟩ := HB9.out.cells
      obtain ⟨x2, y2, n2, nc2, l2, lc2, e2, xl2, d0, d1, d2, -, hl2⟩ := SrvsAt.get (H.out.srvs.below HB9.out.st.below) HS.out
      subst e2
      have HL2 := Lib.hid hl2
      clear hl2
      go_wp2_with fail
      refine (refLocation_any path n2 l2 s.names.length nc2 lc2 s.dflt s.locs w9 hp1 HL2.out hll).mono ?_
      rintro e w10 ⟨rfl, hb10⟩
      rw [HKB.out]
      have HB10 := Lib.hid (HB9.out.later hb10)
      clear hb10 a0 a1 a2 a3 a4 a5 b0 b1 b2 b3 b4 b5 d0 d1 d2 xl2
      go_wp2_with fail
      go_roundw
      case rel => exact ⟨k + 1, by omega, by go_num, HB10⟩
      case measure => simp [intOf]; omega
    · obtain rfl : k = L.length := by omega
      go_wp2_with fail
      have HX1 : Hid (UpssAt wr.drew ua U) := Lib.hid ((H.out.ups.below hbo.out.st.below).below ((Below.refl _ wr).drew))
      have HX2 : Hid (SrvsAt wr.drew sa L) := Lib.hid ((H.out.srvs.below hbo.out.st.below).below ((Below.refl _ wr).drew))
      go_region_held3 (fun w' => ((w'.cell? ⟨w.heap.size, 0, none⟩ = some (.int .i64 k0) ∧ w'.cell? ⟨w.heap.size, 1, none⟩ = some (.int .i64 k1) ∧ w'.cell? ⟨w.heap.size, 2, none⟩ = some (.int .i64 k2) ∧ w'.cell? ⟨w.heap.size, 3, none⟩ = some (.int .i64 k3) ∧ w'.cell? ⟨w.heap.size, 4, none⟩ = some (.slice ua U.length uc) ∧ w'.cell? ⟨w.heap.size, 5, none⟩ = some (.slice sa L.length sc)) ∧ (w'.cell? ⟨xb, 0, none⟩ = some (.int .i64 k0) ∧ w'.cell? ⟨xb, 1, none⟩ = some (.int .i64 k1) ∧ w'.cell? ⟨xb, 2, none⟩ = some (.int .i64 k2) ∧ w'.cell? ⟨xb, 3, none⟩ = some (.int .i64 k3) ∧ w'.cell? ⟨xb, 4, none⟩ = some (.slice ua2 U.length uc2) ∧ w'.cell? ⟨xb, 5, none⟩ = some (.slice sa2 L.length sc2)))) (first | assumption | go_keep)
        (first | (go_at_call 7; refine (own_any k0 k1 k2 k3 ua sa uc sc U L _ (by exact HX1.out) (by exact HX2.out) hul hsl H.out.uok H.out.sfit).mono ?_; intro e w11 h11; obtain ⟨ua3, uc3, sa3, sc3, rfl, hb11, hu11, hs11⟩ := own_reads h11; have hb12 : Below wr.heap.size wr w11 := ((Below.refl _ wr).drew).trans hb11; have HB11 := Lib.hid (hbo.out.later hb12); have hcc := HB11.out.cells; have HU11 := Lib.hid hu11; have HS11 := Lib.hid hs11; clear h11 hb11 hb12 hu11 hs11) | (go_at_call 15; refine (same_any k0 k1 k2 k3 ua2 sa2 ua3 sa3 uc2 sc2 uc3 sc3 U L _ (by exact HB11.out.ups) (by exact HU11.out) (by exact HB11.out.srvs) (by exact HS11.out) hul hsl H.out.uok H.out.sok).mono ?_; rintro e w12 ⟨rfl, hb12⟩; have HB12 := Lib.hid (HB11.out.later hb12); have hcd := HB12.out.cells; clear hb12) | (go_at_call 16; refine (knows_any _).mono ?_; rintro e w13 ⟨rfl, hb13⟩; have HB13 := Lib.hid (HB12.out.later hb13); have hce := HB13.out.cells; clear hb13))
      go_wp2_with fail
      go_ret
      exact ⟨rfl, HB13.out.st.below⟩
end Go.Proofs.Ytlaoeciflifggaa.Rt
