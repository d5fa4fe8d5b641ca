/- route.Find, and the document's Server and Find. -/
import Derived.Test.YtlaoeciflifggaaSv
set_option linter.unusedVariables false
namespace Go.Proofs.Ytlaoeciflifggaa.Rt
open Go.RowKit
open Go.Lib hiding intOf

/-- the server's place, none below 0 -/
def srvN (host : ByteArray) (L : List Srv) : Nat := (srvI host L).toNat
def findOf (host path : ByteArray) (L : List Srv) : Int × Int × Int :=
  match L[srvN host L]? with
  | none => (0, 0, 61)
  | some s => if locAt path s.locs < 0 then (0, 0, 61) else ((srvN host L : Int), locAt path s.locs, 0)

theorem srvOf_nil (host : ByteArray) (L : List Srv) (h : L.length = 0) : srvOf host L = (0, 61) := if_pos h
theorem srvOf_some (host : ByteArray) (L : List Srv) (h : L.length ≠ 0) : srvOf host L = ((srvN host L : Int), 0) := by
  unfold srvOf srvN
  rw [if_neg h]
  congr 1; omega
theorem srvN_lt (host : ByteArray) (L : List Srv) (h : L.length ≠ 0) : srvN host L < L.length := by
  have := srvI_bd host L; unfold srvN; omega

set_option maxHeartbeats 2000000 in
set_option maxRecDepth 100000 in
theorem find_any (host path : ByteArray) (k0 k1 k2 k3 : Int) (ua sa : Option Addr) (un uc sc : Nat) (L : List Srv) (w : World) (hh : host.size ≤ 9223372036854775807) (hp1 : path.size ≤ 4611686018427387904) (hL : SrvsAt w sa L) (hlen : L.length ≤ 9223372036854775807) (hok : ∀ s ∈ L, SrvOk s) :
    Calls Try.prog 10 #[.agg #[.int .i64 k0, .int .i64 k1, .int .i64 k2, .int .i64 k3, .slice ua un uc, .slice sa L.length sc], .string host, .string path] w fun e w' => e = .returned (.tuple #[.int .i64 (findOf host path L).1, .int .i64 (findOf host path L).2.1, .int .i64 (findOf host path L).2.2]) ∧ Below w.heap.size w w' := by
  have hbel0 : Below w.heap.size w (w.alloc (.cells #[.int .i64 k0, .int .i64 k1, .int .i64 k2, .int .i64 k3, .slice ua un uc, .slice sa L.length sc] 29)) := (Below.refl _ w).alloc (Nat.le_refl _) _
  have hsv := server_any host k0 k1 k2 k3 ua sa un uc sc L _ hh (hL.below hbel0) hlen hok
  have HSV := Lib.hid hsv
  have HL := Lib.hid hL
  have HOK := Lib.hid hok
  clear hsv hL hok
  by_cases hz : L.length = 0
  · have hf : findOf host path L = (0, 0, 61) := by
      have : L = [] := List.length_eq_zero_iff.1 hz
      subst this; rfl
    have hs := srvOf_nil host L hz
    rw [hf]
    have HS := Lib.hid hs
    have HZ := Lib.hid hz
    have HB0 := Lib.hid hbel0
    clear hs hz hf hbel0
    go_enter Try.func10, Try.ntmps10
    go_wp2_with fail
    refine HSV.out.mono ?_
    rintro e w1 ⟨rfl, hb1⟩
    rw [HS.out]
    have HB1 := Lib.hid (HB0.out.trans (hb1.mono HB0.out.size))
    clear hb1
    go_wp2_with fail
    go_ret3
    exact ⟨rfl, HB1.out⟩
  · obtain ⟨i, hi⟩ : ∃ i, i = srvN host L := ⟨_, rfl⟩
    have hlt := srvN_lt host L hz
    rw [← hi] at hlt
    obtain ⟨s, hs⟩ : ∃ s, L[i]? = some s := ⟨L[i], List.getElem?_eq_getElem _⟩
    have hf : findOf host path L = if locAt path s.locs < 0 then (0, 0, 61) else ((i : Int), locAt path s.locs, 0) := by
      unfold findOf; rw [← hi, hs]
    have hso := srvOf_some host L hz
    rw [← hi] at hso
    have hq0 : (w.alloc (.cells #[.int .i64 k0, .int .i64 k1, .int .i64 k2, .int .i64 k3, .slice ua un uc, .slice sa L.length sc] 29)).cell? ⟨w.heap.size, 5, none⟩ = some (.slice sa L.length sc) := by simp
    have hz0 : w.heap.size < (w.alloc (.cells #[.int .i64 k0, .int .i64 k1, .int .i64 k2, .int .i64 k3, .slice ua un uc, .slice sa L.length sc] 29)).heap.size := by simp
    have HQ := Lib.hid (And.intro hq0 hz0)
    have HSO := Lib.hid hso
    have HFF := Lib.hid hf
    have HS := Lib.hid hs
    have HI := Lib.hid hi
    have HB0 := Lib.hid hbel0
    have HSK := Lib.hid (HOK.out s (List.mem_of_getElem? hs))
    clear hso hf hs hi hq0 hz0 hbel0
    go_enter Try.func10, Try.ntmps10
    go_wp2_with fail
    refine HSV.out.mono ?_
    rintro e w1 ⟨rfl, hb1⟩
    rw [HSO.out]
    have q0 := (hb1.cell (p := ⟨w.heap.size, 5, none⟩) HQ.out.2).trans HQ.out.1
    have HB1 := Lib.hid (HB0.out.trans (hb1.mono HB0.out.size))
    obtain ⟨b, off, na, nc, la, lc, rfl, hbl, c0, c1, c2, hnm, hlc⟩ := SrvsAt.get (HL.out.below HB1.out) HS.out
    have hll := HSK.out.llen
    have hlo := location_any path na la s.names.length nc lc s.dflt s.locs w1 hp1 hlc hll
    have HLO := Lib.hid hlo
    clear hb1 hlo hnm hlc
    by_cases hneg : locAt path s.locs < 0
    · have hd : decide (0 ≤ locAt path s.locs) = false := by simp; omega
      have HF2 := Lib.hid (HFF.out.trans (if_pos hneg))
      clear hneg
      go_wp2_with fail
      refine HLO.out.mono ?_
      rintro e w2 ⟨rfl, hb2⟩
      have HB2 := Lib.hid (HB1.out.trans (hb2.mono HB1.out.size))
      unfold locOf
      clear hb2
      go_wp2_with fail
      go_ret3
      exact ⟨by rw [HF2.out]; rfl, HB2.out⟩
    · have hd : decide (0 ≤ locAt path s.locs) = true := by simp; omega
      have hmx : max (locAt path s.locs) 0 = locAt path s.locs := by omega
      have HF2 := Lib.hid (HFF.out.trans (if_neg hneg))
      clear hneg
      go_wp2_with fail
      refine HLO.out.mono ?_
      rintro e w2 ⟨rfl, hb2⟩
      have HB2 := Lib.hid (HB1.out.trans (hb2.mono HB1.out.size))
      unfold locOf
      rw [hmx]
      clear hb2 hmx
      go_wp2_with fail
      go_ret3
      exact ⟨by rw [HF2.out]; rfl, HB2.out⟩
end Go.Proofs.Ytlaoeciflifggaa.Rt
