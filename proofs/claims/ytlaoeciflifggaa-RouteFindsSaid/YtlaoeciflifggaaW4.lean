/- RouteLongest answers true. -/
import Derived.Test.YtlaoeciflifggaaKnw
set_option linter.unusedVariables false
namespace Go.Proofs.Ytlaoeciflifggaa.Rt
open Go.RowKit
open Go.Lib hiding intOf

theorem locOf_none {path : ByteArray} {L : List Loc} (h : locAt path L = -1) : locOf path L = .tuple #[.int .i64 0, .bool false] := by unfold locOf; rw [h]; rfl
theorem locOf_some {path : ByteArray} {L : List Loc} {j : Nat} (h : locAt path L = j) : locOf path L = .tuple #[.int .i64 j, .bool true] := by
  unfold locOf; rw [h, show max (j : Int) 0 = j by omega, show decide ((0 : Int) ≤ j) = true by simp]

theorem loc_cases (path : ByteArray) (L : List Loc) : (locAt path L = -1 ∧ ∀ l ∈ L, hp path l.pre = false) ∨
    ∃ (j : Nat) (l' : Loc), locAt path L = j ∧ L[j]? = some l' ∧ hp path l'.pre = true ∧ ∀ l ∈ L, hp path l.pre = true → l.pre.size ≤ l'.pre.size := by
  unfold locAt best
  rcases bst_spec (L.map (rk path)) with ⟨h1, h2⟩ | ⟨j, n, h1, h2, h3, h4⟩
  · refine .inl ⟨by rw [h1], fun l hl => ?_⟩
    cases hq : hp path l.pre with
    | false => rfl
    | true =>
      have := h2 (rk path l) (List.mem_map_of_mem hl)
      unfold rk at this; rw [if_pos hq] at this; omega
  · rw [List.getElem?_map] at h2
    cases hx : L[j]? with
    | none => rw [hx] at h2; cases h2
    | some l' =>
      rw [hx] at h2
      simp only [Option.map_some, Option.some.injEq] at h2
      have hh : hp path l'.pre = true := by
        cases hq : hp path l'.pre with
        | true => rfl
        | false => unfold rk at h2; rw [if_neg (by rw [hq]; simp)] at h2; omega
      refine .inr ⟨j, l', by rw [h1], hx, hh, fun l hl hq => ?_⟩
      obtain ⟨i, hi⟩ := List.getElem?_of_mem hl
      have := (h4 i (rk path l) (by simp [hi])).1
      unfold rk at this h2
      rw [if_pos hq] at this
      rw [if_pos hh] at h2
      omega

/-- does one of the first k begin it? -/
def sm (path : ByteArray) (L : List Loc) (k : Nat) : Bool := (L.take k).any fun l => hp path l.pre
theorem sm_step {path : ByteArray} {L : List Loc} {k : Nat} {l : Loc} (h : L[k]? = some l) : sm path L (k + 1) = (sm path L k || hp path l.pre) := by
  unfold sm; rw [List.take_add_one, h]; simp

/-- a server that is an argument -/
theorem one_srv {w : World} {na la : Option Addr} {nc lc : Nat} {s : Srv} {g : Nat} (hg : w.heap[g]? = some (.cells #[.slice na s.names.length nc, .bool s.dflt, .slice la s.locs.length lc] 50 (0, 0))) (h1 : NamesAt w na s.names) (h2 : LocsAt w la s.locs) (h3 : na = none → nc = 0) : SrvsAt w (some ⟨g, 0, none⟩) [s] := by
  intro i x hx
  have hi : i = 0 := by have := (List.getElem?_eq_some_iff.1 hx).1; simp at this; omega
  subst hi
  cases hx
  refine ⟨g, 0, [.slice na s.names.length nc, .bool s.dflt, .slice la s.locs.length lc], rfl, (Array.getElem?_eq_some_iff.1 hg).1, ⟨na, nc, la, lc, rfl, h1, h2, h3⟩, fun j u hj => ?_⟩
  have hj3 : j = 0 ∨ j = 1 ∨ j = 2 := by have := (List.getElem?_eq_some_iff.1 hj).1; simp at this; omega
  simp only [World.cell?, hg]
  rcases hj3 with rfl | rfl | rfl <;> (cases hj; rfl)

/-- what a server must be that is an argument -/
structure SrvArg (w : World) (na : Option Addr) (nc : Nat) (la : Option Addr) (lc : Nat) (s : Srv) : Prop where
  names : NamesAt w na s.names
  locs : LocsAt w la s.locs
  nil : na = none → nc = 0
  ok : SrvOk s
  fit : SrvFit s

theorem field5 (k0 k1 k2 k3 : Int) (ua sa : Option Addr) (un uc sn sc : Nat) : ∀ w', (Instr.field 29 (.agg #[.int .i64 k0, .int .i64 k1, .int .i64 k2, .int .i64 k3, .slice ua un uc, .slice sa sn sc]) 5).run Try.prog w' = .ok (.slice sa sn sc) w' := fun _ => by rfl

set_option maxHeartbeats 4000000 in
set_option maxRecDepth 100000 in
theorem walk4 (path : ByteArray) (na la : Option Addr) (nc lc : Nat) (s : Srv) (w : World) (h : SrvArg w na nc la lc s) (hp1 : path.size ≤ 4611686018427387904) :
    Calls Try.prog 4 #[.agg #[.slice na s.names.length nc, .bool s.dflt, .slice la s.locs.length lc], .string path] w (BoolBelow true w) := by
  have H := Lib.hid h
  have hll := h.ok.llen
  clear h
  go_enter Try.func4, Try.ntmps4
  go_wp2_with fail
  have hb0 : Below w.heap.size w ((w.alloc (.cells #[.slice na s.names.length nc, .bool s.dflt, .slice la s.locs.length lc] 50)).alloc (.cells #[.slice na s.names.length nc, .bool s.dflt, .slice la s.locs.length lc] 50)) := ((Below.refl _ w).alloc (Nat.le_refl _) _).alloc (by simp) _
  have hg0 : ((w.alloc (.cells #[.slice na s.names.length nc, .bool s.dflt, .slice la s.locs.length lc] 50)).alloc (.cells #[.slice na s.names.length nc, .bool s.dflt, .slice la s.locs.length lc] 50)).heap[w.heap.size]? = some (.cells #[.slice na s.names.length nc, .bool s.dflt, .slice la s.locs.length lc] 50 (0, 0)) := heap_alloc2_old _ _ _
  have hg1 : ((w.alloc (.cells #[.slice na s.names.length nc, .bool s.dflt, .slice la s.locs.length lc] 50)).alloc (.cells #[.slice na s.names.length nc, .bool s.dflt, .slice la s.locs.length lc] 50)).heap[w.heap.size + 1]? = some (.cells #[.slice na s.names.length nc, .bool s.dflt, .slice la s.locs.length lc] 50 (0, 0)) := heap_alloc2_new _ _ _
  generalize ((w.alloc (.cells #[.slice na s.names.length nc, .bool s.dflt, .slice la s.locs.length lc] 50)).alloc (.cells #[.slice na s.names.length nc, .bool s.dflt, .slice la s.locs.length lc] 50)) = w1 at hb0 hg0 hg1 ⊢
  have hs1 := one_srv hg1 (H.out.names.below hb0) (H.out.locs.below hb0) H.out.nil
  have HB0 := Lib.hid hb0
  have HG0 := Lib.hid hg0
  have HS1 := Lib.hid hs1
  clear hb0 hg0 hg1 hs1
  refine (own_any 0 0 0 0 none (some ⟨w.heap.size + 1, 0, none⟩) 0 1 [] [s] w1 (upss_nil _) HS1.out (by simp) (by simp) (by simp) (by intro x hx; simp at hx; subst hx; exact H.out.fit)).mono ?_
  intro e w2 h2
  obtain ⟨ua, uc, sa2, sc2, rfl, hb2, _, hs2⟩ := own_reads h2
  have HB2 := Lib.hid (HB0.out.trans (hb2.mono HB0.out.size))
  have HG2 := Lib.hid ((hb2.block w.heap.size (Array.getElem?_eq_some_iff.1 HG0.out).1).trans HG0.out)
  obtain ⟨b, off, na2, nc2, la2, lc2, rfl, hbl, c0, c1, c2, hnm, hlc⟩ := SrvsAt.get (i := 0) hs2 rfl
  have HLC := Lib.hid hlc
  rw [show [s].length = 1 from rfl, show ([] : List Ups).length = 0 from rfl]
  simp only [Nat.zero_mul, Nat.add_zero] at c0 c1 c2
  clear h2 hb2 hs2 hnm hlc
  have hlk := loc_cases path s.locs
  have hfd := field5 0 0 0 0 ua (some ⟨b, off, none⟩) 0 uc 1 sc2
  go_wp2_with fail
  clear hfd
  have hlo := fun W (hW : LocsAt W la2 s.locs) => location_any path na2 la2 s.names.length nc2 lc2 s.dflt s.locs W hp1 hW hll
  have HLO := Lib.hid hlo
  clear hlo
  have hbw : Below w2.heap.size w2 (w2.alloc (.cells #[.slice na2 s.names.length nc2, .bool s.dflt, .slice la2 s.locs.length lc2] 46)) := (Below.refl _ _).alloc (Nat.le_refl _) _
  refine (HLO.out _ (HLC.out.below hbw)).mono ?_
  rintro e w3 ⟨rfl, hb3⟩
  have hb23 : Below w2.heap.size w2 w3 := hbw.trans (hb3.mono hbw.size)
  have HB3 := Lib.hid (HB2.out.trans (hb23.mono HB2.out.size))
  have HG3 := Lib.hid ((hb23.block w.heap.size (Array.getElem?_eq_some_iff.1 HG2.out).1).trans HG2.out)
  have HL3 := Lib.hid (H.out.locs.below HB3.out)
  have hwl : w.heap.size < w3.heap.size := (Array.getElem?_eq_some_iff.1 HG3.out).1
  clear hb3 hbw hb23 c0 c1 c2
  rcases hlk with ⟨h1, h2⟩ | ⟨jj, l', h1, h2, h3, h4⟩
  · rw [locOf_none h1]
    have HNO := Lib.hid h2
    clear h1 h2
    go_wp2_with fail
    go_loopw [8, 9] (fun v i wr => ∃ k : Nat, k ≤ s.locs.length ∧ v = .bool false ∧ i = .int .i64 k ∧ Hid (Below w3.heap.size w3 wr)) (fun _ i _ => s.locs.length - (intOf i).toNat)
    case atStart => exact ⟨0, Nat.zero_le _, rfl, rfl, Lib.hid (Below.refl _ _)⟩
    case round =>
      obtain ⟨k, hk, rfl, rfl, hbel⟩ := hrel
      have hgr := (hbel.out.block w.heap.size hwl).trans HG3.out
      obtain ⟨s0, s1, s2, f0, f1, f2, sl⟩ := cells3f hgr
      clear hgr
      by_cases hlt : k < s.locs.length
      · obtain ⟨l, hl⟩ : ∃ l, s.locs[k]? = some l := ⟨s.locs[k], List.getElem?_eq_getElem _⟩
        obtain ⟨b2, off2, rfl, hbl2, d0, -⟩ := LocsAt.get (HL3.out.below hbel.out) hl
        have HF := Lib.hid (HNO.out l (List.mem_of_getElem? hl))
        clear hl
        go_wp2_with (go_at_call 17; refine (begins_any _ _ _).mono ?_; rintro e w' ⟨rfl, rfl⟩; rw [HF.out])
        go_roundw
        case rel => exact ⟨k + 1, by omega, rfl, by go_num, hbel⟩
        case measure => simp [intOf]; omega
      · obtain rfl : k = s.locs.length := by omega
        go_wp2_with fail
        refine (knows_any _).mono ?_
        rintro e w5 ⟨rfl, hb5⟩
        have HB5 := Lib.hid (HB3.out.trans ((hbel.out.trans (hb5.mono hbel.out.size)).mono HB3.out.size))
        clear hb5
        go_wp2_with fail
        go_ret
        exact ⟨rfl, HB5.out⟩
  · rw [locOf_some h1]
    have hjl : jj < s.locs.length := (List.getElem?_eq_some_iff.1 h2).1
    have HJ := Lib.hid h2
    have HH := Lib.hid h3
    have HM := Lib.hid h4
    have hj0 : decide ((jj : Int) < 0) = false := by simp
    have hjn : decide (s.locs.length ≤ jj) = false := by simp; omega
    clear h1 h2 h3 h4
    go_wp2_with fail
    go_loopw [8, 9] (fun v i wr => ∃ k : Nat, k ≤ s.locs.length ∧ v = .bool (sm path s.locs k) ∧ i = .int .i64 k ∧ Hid (Below w3.heap.size w3 wr)) (fun _ i _ => s.locs.length - (intOf i).toNat)
    case atStart => exact ⟨0, Nat.zero_le _, rfl, rfl, Lib.hid (Below.refl _ _)⟩
    case round =>
      obtain ⟨k, hk, rfl, rfl, hbel⟩ := hrel
      have hgr := (hbel.out.block w.heap.size hwl).trans HG3.out
      obtain ⟨s0, s1, s2, f0, f1, f2, sl⟩ := cells3f hgr
      obtain ⟨b3, off3, rfl, hbl3, g0, -⟩ := LocsAt.get (HL3.out.below hbel.out) HJ.out
      clear hgr
      by_cases hlt : k < s.locs.length
      · obtain ⟨l, hl⟩ : ∃ l, s.locs[k]? = some l := ⟨s.locs[k], List.getElem?_eq_getElem _⟩
        obtain ⟨b2, off2, e2, hbl2, d0, -⟩ := LocsAt.get (HL3.out.below hbel.out) hl
        cases e2
        have HST := Lib.hid (sm_step (path := path) hl)
        have HML := Lib.hid (HM.out l (List.mem_of_getElem? hl))
        clear hl
        cases hq : hp path l.pre with
        | true =>
          have HF := Lib.hid hq
          have hsm : sm path s.locs (k + 1) = true := by rw [HST.out, hq]; simp
          have HSM := Lib.hid hsm
          have hdg : decide (l'.pre.size < l.pre.size) = false := by have := HML.out hq; simp; omega
          have hdg2 : decide ((l'.pre.size : Int) < (l.pre.size : Int)) = false := by have := HML.out hq; simp; omega
          clear hq hsm
          go_wp2_with (go_at_call 17; refine (begins_any _ _ _).mono ?_; rintro e w' ⟨rfl, rfl⟩; rw [HF.out])
          go_quiet (fail)
          go_wp2_with fail
          go_roundw
          case rel => exact ⟨k + 1, by omega, by rw [HSM.out], by go_num, Lib.hid (belowN hbel.out)⟩
          case measure => simp [intOf]; omega
        | false =>
          have HF := Lib.hid hq
          have hsm : sm path s.locs (k + 1) = sm path s.locs k := by rw [HST.out, hq]; simp
          have HSM := Lib.hid hsm
          clear hq hsm
          go_wp2_with (go_at_call 17; refine (begins_any _ _ _).mono ?_; rintro e w' ⟨rfl, rfl⟩; rw [HF.out])
          go_roundw
          case rel => exact ⟨k + 1, by omega, by rw [HSM.out], by go_num, hbel⟩
          case measure => simp [intOf]; omega
      · obtain rfl : k = s.locs.length := by omega
        have hsm : sm path s.locs s.locs.length = true := by
          unfold sm; rw [List.take_length, List.any_eq_true]
          exact ⟨l', List.mem_of_getElem? HJ.out, HH.out⟩
        rw [hsm]
        go_wp2_with fail
        refine (begins_any _ _ _).mono ?_
        rintro e w' ⟨rfl, rfl⟩
        rw [HH.out]
        go_wp2_with fail
        refine (knows_any _).mono ?_
        rintro e w5 ⟨rfl, hb5⟩
        have HB5 := Lib.hid (HB3.out.trans ((hbel.out.trans (hb5.mono hbel.out.size)).mono HB3.out.size))
        clear hb5
        go_wp2_with fail
        go_ret
        exact ⟨rfl, HB5.out⟩
end Go.Proofs.Ytlaoeciflifggaa.Rt
