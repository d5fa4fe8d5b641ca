/- knows answers true. -/
import Derived.Test.YtlaoeciflifggaaFew
import Derived.Test.YtlaoeciflifggaaOwd
set_option linter.unusedVariables false
namespace Go.Proofs.Ytlaoeciflifggaa.Rt
open Go.RowKit
open Go.Lib hiding intOf

theorem few_find1 : findOf ⟨#[65, 46, 111, 114, 103]⟩ ⟨#[47, 97, 47, 98]⟩ fewL = (0, 1, 0) := by decide +kernel
theorem few_find2 : findOf ⟨#[98, 46, 111, 114, 103]⟩ ⟨#[47, 97, 98]⟩ fewL = (1, 2, 0) := by decide +kernel
theorem few_ok : ∀ s ∈ fewL, SrvOk s := by
  intro s hs
  simp only [fewL, List.mem_cons, List.not_mem_nil, or_false] at hs
  rcases hs with rfl | rfl
  · exact ⟨by simp, by simp [fewLocs], by intro n hn; simp at hn; subst hn; decide⟩
  · exact ⟨by simp, by simp [fewLocs], by intro n hn; simp at hn; subst hn; decide⟩
theorem few_fit : ∀ s ∈ fewL, SrvFit s := by
  intro s hs
  simp only [fewL, List.mem_cons, List.not_mem_nil, or_false] at hs
  rcases hs with rfl | rfl
  · exact ⟨by simp, by simp [fewLocs]⟩
  · exact ⟨by simp, by simp [fewLocs]⟩

theorem num_any (x : Int) (w : World) (h1 : -9223372036854775808 ≤ x) (h2 : x ≤ 9223372036854775807) : Calls Try.prog 12 #[.int .i64 x] w fun e w' => e = .returned (.int .i64 x) ∧ w = w' := by
  go_enter Try.func12, Try.ntmps12
  go_wp2
  go_ret
  exact ⟨rfl, rfl⟩

theorem upss_nil (w : World) : UpssAt w none [] := fun i u h => by simp at h

/-- what is known of a configuration that Own made -/
theorem own_reads {k0 k1 k2 k3 : Int} {U : List Ups} {L : List Srv} {w w' : World} {e : Ending} (h : OwnPost k0 k1 k2 k3 U L w e w') :
    ∃ ua uc sa sc, e = .returned (.agg #[.int .i64 k0, .int .i64 k1, .int .i64 k2, .int .i64 k3, .slice ua U.length uc, .slice sa L.length sc]) ∧ Below w.heap.size w w' ∧ UpssAt w' ua U ∧ SrvsAt w' sa L := by
  obtain ⟨uv, sv, urows, rows, base, rfl, hb, _, hu, hum, hs, hsm⟩ := h
  obtain ⟨ua, uc, rfl, -⟩ := own_shape hu.row
  obtain ⟨sa, sc, rfl, -⟩ := own_shape hs.row
  have h1 : urows.length = U.length := by rw [← hum]; simp
  have h2 : rows.length = L.length := by rw [← hsm]; simp
  rw [h1] at hu ⊢
  rw [h2] at hs ⊢
  exact ⟨ua, uc, sa, sc, rfl, hb, hu.at hum, hs.at hsm⟩

set_option maxHeartbeats 2000000 in
set_option maxRecDepth 100000 in
theorem knows_any (w : World) : Calls Try.prog 16 #[] w (BoolBelow true w) := by
  go_enter Try.func16, Try.ntmps16
  go_wp2_with fail
  refine (few_any _).mono ?_
  rintro e w1 ⟨sa, sc, rfl, hb1, hf⟩
  have HB1 := Lib.hid hb1
  have HF := Lib.hid hf
  clear hb1 hf
  go_wp2_with fail
  refine (own_any 0 0 0 0 none sa 0 sc [] fewL w1 (upss_nil _) HF.out (by simp) (by simp [fewL]) (by simp) few_fit).mono ?_
  intro e w2 h2
  obtain ⟨ua, uc, sa2, sc2, rfl, hb2, _, hs2⟩ := own_reads h2
  have HB2 := Lib.hid (HB1.out.trans (hb2.mono HB1.out.size))
  have HS2 := Lib.hid hs2
  clear h2 hb2 hs2
  rw [show fewL.length = 2 from rfl, show ([] : List Ups).length = 0 from rfl]
  go_wp2_with fail
  have hq0 : Below w.heap.size w (w2.alloc (.cells #[.int .i64 0, .int .i64 0, .int .i64 0, .int .i64 0, .slice ua 0 uc, .slice sa2 2 sc2] 29)) := HB2.out.alloc HB2.out.size _
  have hq1 : SrvsAt (w2.alloc (.cells #[.int .i64 0, .int .i64 0, .int .i64 0, .int .i64 0, .slice ua 0 uc, .slice sa2 2 sc2] 29)) sa2 fewL := HS2.out.below ((Below.refl _ _).alloc (Nat.le_refl _) _)
  have hq2 : (w2.alloc (.cells #[.int .i64 0, .int .i64 0, .int .i64 0, .int .i64 0, .slice ua 0 uc, .slice sa2 2 sc2] 29)).heap[w2.heap.size]? = some (.cells #[.int .i64 0, .int .i64 0, .int .i64 0, .int .i64 0, .slice ua 0 uc, .slice sa2 2 sc2] 29 (0, 0)) := heap_alloc_new _ _
  generalize (w2.alloc (.cells #[.int .i64 0, .int .i64 0, .int .i64 0, .int .i64 0, .slice ua 0 uc, .slice sa2 2 sc2] 29)) = w3 at hq0 hq1 hq2 ⊢
  have HQ0 := Lib.hid hq0
  have HQ1 := Lib.hid hq1
  have HQ2 := Lib.hid hq2
  clear hq0 hq1 hq2
  refine (find_any ⟨#[65, 46, 111, 114, 103]⟩ ⟨#[47, 97, 47, 98]⟩ 0 0 0 0 ua sa2 0 uc sc2 fewL w3 (by decide) (by decide) HQ1.out (by simp [fewL]) few_ok).mono ?_
  rintro e w4 ⟨rfl, hb4⟩
  rw [few_find1]
  have HB4 := Lib.hid (HQ0.out.trans (hb4.mono HQ0.out.size))
  have hq4 := (hb4.block w2.heap.size (Array.getElem?_eq_some_iff.1 HQ2.out).1).trans HQ2.out
  have HS4 := Lib.hid (HQ1.out.below hb4)
  obtain ⟨o0, o1, o2, o3, o4, o5, -⟩ := out_cells hq4
  clear hq4 hb4
  go_wp2_with fail
  refine (find_any ⟨#[98, 46, 111, 114, 103]⟩ ⟨#[47, 97, 98]⟩ 0 0 0 0 ua sa2 0 uc sc2 fewL w4 (by decide) (by decide) HS4.out (by simp [fewL]) few_ok).mono ?_
  rintro e w5 ⟨rfl, hb5⟩
  rw [few_find2]
  have HB5 := Lib.hid (HB4.out.trans (hb5.mono HB4.out.size))
  clear hb5 o0 o1 o2 o3 o4 o5
  go_wp2_with (go_at_call 12; refine (num_any 0 _ (by omega) (by omega)).mono ?_; rintro e w' ⟨rfl, rfl⟩)
  go_ret
  exact ⟨rfl, HB5.out⟩
end Go.Proofs.Ytlaoeciflifggaa.Rt
