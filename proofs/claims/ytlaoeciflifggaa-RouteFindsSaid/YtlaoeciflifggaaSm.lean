/- SameStrings, Same. -/
import Derived.Test.YtlaoeciflifggaaCfg
import Derived.Deep.CutBlock
set_option linter.unusedVariables false
namespace Go.Proofs.Ytlaoeciflifggaa.Rt
open Go.RowKit
open Go.Lib hiding intOf

set_option maxHeartbeats 1000000 in
set_option maxRecDepth 100000 in
theorem sameStrings_any (a1 a2 : Option Addr) (c1 c2 : Nat) (L : List ByteArray) (w : World) (h1 : NamesAt w a1 L) (h2 : NamesAt w a2 L) (hl : L.length ≤ 9223372036854775807) :
    Calls Try.prog 29 #[.slice a1 L.length c1, .slice a2 L.length c2] w fun e w' => e = .returned (.bool true) ∧ ∃ q, w' = w.drewN q := by
  have H1 := Lib.hid h1
  have H2 := Lib.hid h2
  clear h1 h2
  go_enter Try.func29, Try.ntmps29
  go_wp2_with fail
  go_loopw [5] (fun i wr => ∃ k q : Nat, k ≤ L.length ∧ i = .int .i64 k ∧ wr = w.drewN q) (fun i _ => L.length - (intOf i).toNat)
  case atStart => exact ⟨0, 0, Nat.zero_le _, rfl, rfl⟩
  case round =>
    obtain ⟨k, q, hk, rfl, rfl⟩ := hrel
    by_cases hlt : k < L.length
    · obtain ⟨s, hs⟩ : ∃ s, L[k]? = some s := ⟨L[k], List.getElem?_eq_getElem _⟩
      obtain ⟨b1, o1, rfl, _, c1⟩ := NamesAt.get H1.out hs
      obtain ⟨b2, o2, rfl, _, c2⟩ := NamesAt.get H2.out hs
      have hse : (s.toList == s.toList) = true := by simp
      have hsn : (s.toList != s.toList) = false := by simp
      have HS := Lib.hid hs
      clear hs
      go_wp2_with fail
      go_quiet (fail)
      go_wp2_with fail
      go_roundw
      case rel => exact ⟨k + 1, q + nq, by omega, by go_num, rfl⟩
      case measure => simp [intOf]; omega
    · obtain rfl : k = L.length := by omega
      go_wp2_with fail
      go_ret
      exact ⟨rfl, q, rfl⟩

theorem cells4u {w : World} {g : Nat} {x0 x1 x2 x3 : Value} {t : TypeId} (h : w.heap[g]? = some (.cells #[x0, x1, x2, x3] t (0, 0))) :
    w.cell? ⟨g, 0, none⟩ = some x0 ∧ w.cell? ⟨g, 1, none⟩ = some x1 ∧ w.cell? ⟨g, 2, none⟩ = some x2 ∧ w.cell? ⟨g, 3, none⟩ = some x3 ∧ g < w.heap.size :=
  ⟨by simp [World.cell?, h], by simp [World.cell?, h], by simp [World.cell?, h], by simp [World.cell?, h], (Array.getElem?_eq_some_iff.1 h).1⟩

set_option maxHeartbeats 8000000 in
set_option maxRecDepth 100000 in
theorem same_any (k0 k1 k2 k3 : Int) (ua1 sa1 ua2 sa2 : Option Addr) (uc1 sc1 uc2 sc2 : Nat) (U : List Ups) (L : List Srv) (w : World) (hU1 : UpssAt w ua1 U) (hU2 : UpssAt w ua2 U) (hS1 : SrvsAt w sa1 L) (hS2 : SrvsAt w sa2 L)
    (hul : U.length * 56 ≤ 140737488351232) (hsl : L.length * 56 ≤ 140737488351232) (huo : ∀ u ∈ U, UpsOk u) (hso : ∀ s ∈ L, SrvOk s) :
    Calls Try.prog 15 #[.agg #[.int .i64 k0, .int .i64 k1, .int .i64 k2, .int .i64 k3, .slice ua1 U.length uc1, .slice sa1 L.length sc1], .agg #[.int .i64 k0, .int .i64 k1, .int .i64 k2, .int .i64 k3, .slice ua2 U.length uc2, .slice sa2 L.length sc2]] w (BoolBelow true w) := by
  have HU1 := Lib.hid hU1
  have HU2 := Lib.hid hU2
  have HS1 := Lib.hid hS1
  have HS2 := Lib.hid hS2
  have HUO := Lib.hid huo
  have HSO := Lib.hid hso
  clear hU1 hU2 hS1 hS2 huo hso
  go_enter Try.func15, Try.ntmps15
  go_upto_region 3 with fail
  have hb0 : Below w.heap.size w ((w.alloc (.cells #[.int .i64 k0, .int .i64 k1, .int .i64 k2, .int .i64 k3, .slice ua1 U.length uc1, .slice sa1 L.length sc1] 29)).alloc (.cells #[.int .i64 k0, .int .i64 k1, .int .i64 k2, .int .i64 k3, .slice ua2 U.length uc2, .slice sa2 L.length sc2] 29)) := ((Below.refl _ w).alloc (Nat.le_refl _) _).alloc (by simp) _
  have hg0 : ((w.alloc (.cells #[.int .i64 k0, .int .i64 k1, .int .i64 k2, .int .i64 k3, .slice ua1 U.length uc1, .slice sa1 L.length sc1] 29)).alloc (.cells #[.int .i64 k0, .int .i64 k1, .int .i64 k2, .int .i64 k3, .slice ua2 U.length uc2, .slice sa2 L.length sc2] 29)).heap[w.heap.size]? = some (.cells #[.int .i64 k0, .int .i64 k1, .int .i64 k2, .int .i64 k3, .slice ua1 U.length uc1, .slice sa1 L.length sc1] 29 (0, 0)) := heap_alloc2_old _ _ _
  have hg1 : ((w.alloc (.cells #[.int .i64 k0, .int .i64 k1, .int .i64 k2, .int .i64 k3, .slice ua1 U.length uc1, .slice sa1 L.length sc1] 29)).alloc (.cells #[.int .i64 k0, .int .i64 k1, .int .i64 k2, .int .i64 k3, .slice ua2 U.length uc2, .slice sa2 L.length sc2] 29)).heap[w.heap.size + 1]? = some (.cells #[.int .i64 k0, .int .i64 k1, .int .i64 k2, .int .i64 k3, .slice ua2 U.length uc2, .slice sa2 L.length sc2] 29 (0, 0)) := heap_alloc2_new _ _ _
  generalize ((w.alloc (.cells #[.int .i64 k0, .int .i64 k1, .int .i64 k2, .int .i64 k3, .slice ua1 U.length uc1, .slice sa1 L.length sc1] 29)).alloc (.cells #[.int .i64 k0, .int .i64 k1, .int .i64 k2, .int .i64 k3, .slice ua2 U.length uc2, .slice sa2 L.length sc2] 29)) = w1 at hb0 hg0 hg1 ⊢
  have HB0 := Lib.hid hb0
  have HG0 := Lib.hid hg0
  have HG1 := Lib.hid hg1
  have hw0 : w.heap.size < w1.heap.size := (Array.getElem?_eq_some_iff.1 hg0).1
  have hw1 : w.heap.size + 1 < w1.heap.size := (Array.getElem?_eq_some_iff.1 hg1).1
  clear hb0 hg0 hg1
  go_wp2_with fail
  go_loopw [5] (fun i wr => ∃ k : Nat, k ≤ U.length ∧ i = .int .i64 k ∧ Hid (Below w1.heap.size w1 wr)) (fun i _ => U.length - (intOf i).toNat)
  case atStart => exact ⟨0, Nat.zero_le _, rfl, Lib.hid (Below.refl _ _)⟩
  case round =>
    obtain ⟨k, hk, rfl, hbel⟩ := hrel
    obtain ⟨wo, rfl⟩ : ∃ wo : World, wo = wr := ⟨_, rfl⟩
    have hbw := HB0.out.trans (hbel.out.mono HB0.out.size)
    obtain ⟨a0, a1, a2, a3, a4, a5, al⟩ := cells6c ((hbel.out.block _ hw0).trans HG0.out)
    obtain ⟨b0, b1, b2, b3, b4, b5, bl⟩ := cells6c ((hbel.out.block _ hw1).trans HG1.out)
    by_cases hlt : k < U.length
    · obtain ⟨u, hu⟩ : ∃ u, U[k]? = some u := ⟨U[k], List.getElem?_eq_getElem _⟩
      obtain ⟨x1, y1, p1, q1, rfl, xl1, c0, c1, c2, c3, hp1⟩ := UpssAt.get (HU1.out.below hbw) hu
      obtain ⟨x2, y2, p2, q2, rfl, xl2, d0, d1, d2, d3, hp2⟩ := UpssAt.get (HU2.out.below hbw) hu
      have hf1 := (HUO.out u (List.mem_of_getElem? hu)).plen
      clear hu
      go_wp2_with fail
      have hx := heap_alloc2_old wo (.cells #[.string u.name, .slice p1 u.peers.length q1, .int .i64 u.timeout, .int .i64 u.retries] 66) (.cells #[.string u.name, .slice p2 u.peers.length q2, .int .i64 u.timeout, .int .i64 u.retries] 66)
      have hy := heap_alloc2_new wo (.cells #[.string u.name, .slice p1 u.peers.length q1, .int .i64 u.timeout, .int .i64 u.retries] 66) (.cells #[.string u.name, .slice p2 u.peers.length q2, .int .i64 u.timeout, .int .i64 u.retries] 66)
      have hbi : Below wo.heap.size wo ((wo.alloc (.cells #[.string u.name, .slice p1 u.peers.length q1, .int .i64 u.timeout, .int .i64 u.retries] 66)).alloc (.cells #[.string u.name, .slice p2 u.peers.length q2, .int .i64 u.timeout, .int .i64 u.retries] 66)) := ((Below.refl _ _).alloc (Nat.le_refl _) _).alloc (by simp) _
      generalize ((wo.alloc (.cells #[.string u.name, .slice p1 u.peers.length q1, .int .i64 u.timeout, .int .i64 u.retries] 66)).alloc (.cells #[.string u.name, .slice p2 u.peers.length q2, .int .i64 u.timeout, .int .i64 u.retries] 66)) = wi at hx hy hbi ⊢
      have HX := Lib.hid hx
      have HY := Lib.hid hy
      have HP1 := Lib.hid (hp1.below hbi)
      have HP2 := Lib.hid (hp2.below hbi)
      have HBI := Lib.hid (hbel.out.trans (hbi.mono hbel.out.size))
      clear hx hy hbi hp1 hp2 a0 a1 a2 a3 a4 a5 b0 b1 b2 b3 b4 b5 c0 c1 c2 c3 d0 d1 d2 d3 al bl xl1 xl2 hbw
      go_loopw [8] (fun i wr => ∃ j q : Nat, j ≤ u.peers.length ∧ i = .int .i64 j ∧ wr = wi.drewN q) (fun i _ => u.peers.length - (intOf i).toNat)
      case atStart => exact ⟨0, 0, Nat.zero_le _, rfl, rfl⟩
      case round =>
        obtain ⟨j, q, hj, rfl, rfl⟩ := hrel
        obtain ⟨e0, e1, e2, e3, el⟩ := cells4u HX.out
        obtain ⟨g0, g1, g2, g3, gl⟩ := cells4u HY.out
        by_cases hjn : j < u.peers.length
        · obtain ⟨p, hp⟩ : ∃ p, u.peers[j]? = some p := ⟨u.peers[j], List.getElem?_eq_getElem _⟩
          obtain ⟨z1, t1, rfl, _, m0, m1⟩ := PeersAt.get HP1.out hp
          obtain ⟨z2, t2, rfl, _, n0, n1⟩ := PeersAt.get HP2.out hp
          clear hp
          go_wp2_with fail
          go_quiet (fail)
          go_wp2_with fail
          go_roundw
          case rel => exact ⟨j + 1, q + nq, by omega, by go_num, rfl⟩
          case measure => simp [intOf]; omega
        · obtain rfl : j = u.peers.length := by omega
          go_wp2_with fail
          go_roundw
          case rel => exact ⟨k + 1, by omega, by go_num, Lib.hid (belowN HBI.out)⟩
          case measure => simp [intOf]; omega
    · obtain rfl : k = U.length := by omega
      have HB1 := Lib.hid hbw
      clear hbw
      go_wp2_with fail
      go_loopw [9] (fun i wr => ∃ k : Nat, k ≤ L.length ∧ i = .int .i64 k ∧ Hid (Below w1.heap.size w1 wr)) (fun i _ => L.length - (intOf i).toNat)
      case atStart => exact ⟨0, Nat.zero_le _, rfl, hbel⟩
      case round =>
        clear a0 a1 a2 a3 a4 a5 b0 b1 b2 b3 b4 b5 al bl hbel HB1
        obtain ⟨k, hk, rfl, hbel⟩ := hrel
        obtain ⟨wq, rfl⟩ : ∃ wq : World, wq = wr := ⟨_, rfl⟩
        have hbw := HB0.out.trans (hbel.out.mono HB0.out.size)
        obtain ⟨a0, a1, a2, a3, a4, a5, al⟩ := cells6c ((hbel.out.block _ hw0).trans HG0.out)
        obtain ⟨b0, b1, b2, b3, b4, b5, bl⟩ := cells6c ((hbel.out.block _ hw1).trans HG1.out)
        by_cases hlt : k < L.length
        · obtain ⟨s, hs⟩ : ∃ s, L[k]? = some s := ⟨L[k], List.getElem?_eq_getElem _⟩
          obtain ⟨x1, y1, n1, nc1, l1, lc1, rfl, xl1, c0, c1, c2, hn1, hl1⟩ := SrvsAt.get (HS1.out.below hbw) hs
          obtain ⟨x2, y2, n2, nc2, l2, lc2, rfl, xl2, d0, d1, d2, hn2, hl2⟩ := SrvsAt.get (HS2.out.below hbw) hs
          have hok := HSO.out s (List.mem_of_getElem? hs)
          have hf1 := hok.nlen
          have hf2 := hok.llen
          clear hs hok
          have hbi : Below wq.heap.size wq ((wq.alloc (.cells #[.slice n1 s.names.length nc1, .bool s.dflt, .slice l1 s.locs.length lc1] 46)).alloc (.cells #[.slice n2 s.names.length nc2, .bool s.dflt, .slice l2 s.locs.length lc2] 46)) := ((Below.refl _ _).alloc (Nat.le_refl _) _).alloc (by simp) _
          have hx := heap_alloc2_old wq (.cells #[.slice n1 s.names.length nc1, .bool s.dflt, .slice l1 s.locs.length lc1] 46) (.cells #[.slice n2 s.names.length nc2, .bool s.dflt, .slice l2 s.locs.length lc2] 46)
          have hy := heap_alloc2_new wq (.cells #[.slice n1 s.names.length nc1, .bool s.dflt, .slice l1 s.locs.length lc1] 46) (.cells #[.slice n2 s.names.length nc2, .bool s.dflt, .slice l2 s.locs.length lc2] 46)
          have HX := Lib.hid hx
          have HY := Lib.hid hy
          have HN1 := Lib.hid (hn1.below hbi)
          have HN2 := Lib.hid (hn2.below hbi)
          have HL1 := Lib.hid (hl1.below hbi)
          have HL2 := Lib.hid (hl2.below hbi)
          have HBI := Lib.hid (hbel.out.trans (hbi.mono hbel.out.size))
          clear hx hy hbi hn1 hn2 hl1 hl2 hbw
          go_wp2_with fail
          generalize ((wq.alloc (.cells #[.slice n1 s.names.length nc1, .bool s.dflt, .slice l1 s.locs.length lc1] 46)).alloc (.cells #[.slice n2 s.names.length nc2, .bool s.dflt, .slice l2 s.locs.length lc2] 46)) = wi at HX HY HN1 HN2 HL1 HL2 HBI ⊢
          refine (sameStrings_any n1 n2 nc1 nc2 s.names wi HN1.out HN2.out hf1).mono ?_
          rintro e w5 ⟨rfl, q0, rfl⟩
          obtain ⟨e0, e1, e2, -, -, -, el⟩ := cells3f HX.out
          obtain ⟨g0, g1, g2, -, -, -, gl⟩ := cells3f HY.out
          clear a0 a1 a2 a3 a4 a5 b0 b1 b2 b3 b4 b5 c0 c1 c2 d0 d1 d2 al bl xl1 xl2
          go_wp2_with fail
          go_loopw [12] (fun i wr => ∃ j q : Nat, j ≤ s.locs.length ∧ i = .int .i64 j ∧ wr = wi.drewN q) (fun i _ => s.locs.length - (intOf i).toNat)
          case atStart => exact ⟨0, q0, Nat.zero_le _, rfl, rfl⟩
          case round =>
            obtain ⟨j, q, hj, rfl, rfl⟩ := hrel
            by_cases hjn : j < s.locs.length
            · obtain ⟨l, hl⟩ : ∃ l, s.locs[j]? = some l := ⟨s.locs[j], List.getElem?_eq_getElem _⟩
              obtain ⟨z1, t1, rfl, _, m0, m1, m2, m3, m4, m5, m6, m7, m8, m9, m10, m11⟩ := LocsAt.get HL1.out hl
              obtain ⟨z2, t2, rfl, _, r0, r1, r2, r3, r4, r5, r6, r7, r8, r9, r10, r11⟩ := LocsAt.get HL2.out hl
              clear hl
              go_wp2_with fail
              go_quiet (fail)
              go_wp2_with fail
              go_roundw
              case rel => exact ⟨j + 1, q + nq, by omega, by go_num, rfl⟩
              case measure => simp [intOf]; omega
            · obtain rfl : j = s.locs.length := by omega
              go_wp2_with fail
              go_roundw
              case rel => exact ⟨k + 1, by omega, by go_num, Lib.hid (belowN HBI.out)⟩
              case measure => simp [intOf]; omega
        · obtain rfl : k = L.length := by omega
          have HB2 := Lib.hid hbw
          clear hbw
          go_wp2_with fail
          go_ret
          exact ⟨rfl, HB2.out⟩
end Go.Proofs.Ytlaoeciflifggaa.Rt
