/- RouteElsewhere answers true. -/
import Derived.Test.YtlaoeciflifggaaW4
set_option linter.unusedVariables false
namespace Go.Proofs.Ytlaoeciflifggaa.Rt
open Go.RowKit
open Go.Lib hiding intOf

theorem locAt_more {path prefx : ByteArray} (L : List Loc) (h : hp path prefx = false) : locAt path (L ++ [pre1 prefx]) = locAt path L := by
  have hr : rk path (pre1 prefx) = 0 := by unfold rk; rw [if_neg]; show ¬ hp path prefx = true; rw [h]; simp
  unfold locAt best
  rw [List.map_append]
  show (bst (L.map (rk path) ++ [rk path (pre1 prefx)]) 0 (-1, 0)).1 = _
  rw [bst_snoc, hr, if_neg (by omega)]

theorem push1 {w w5 w6 : World} {H base xb n : Nat} {nv dv lv lv' : Value} {xs ys : List Value} {o : Obj} (hx : w.heap[xb]? = some (.cells #[nv, dv, lv] 46 (0, 0))) (h0 : w.ownsRow base 58 12 lv n xs) (hne : lv.ownBlock ≠ some xb) (hH : H ≤ base) (hH2 : H ≤ xb) (hH3 : H ≤ w.heap.size) (hw5 : w5 = w.alloc o)
    (hown : w6.ownsRow base 58 12 lv' (n + 1) (xs ++ ys)) (hgrow : w5.grownBy w6 lv.ownBlock) (hat : lv'.ownBlock = lv.ownBlock ∨ lv'.ownBlock = some w5.heap.size) :
    (w6.setCell ⟨xb, 2, none⟩ lv').heap[xb]? = some (.cells #[nv, dv, lv'] 46 (0, 0)) ∧ (w6.setCell ⟨xb, 2, none⟩ lv').ownsRow base 58 12 lv' (n + 1) (xs ++ ys) ∧ Below H w (w6.setCell ⟨xb, 2, none⟩ lv') ∧ w6.heap[xb]? = some (.cells #[nv, dv, lv] 46 (0, 0)) := by
  have hs5 : w5.heap.size = w.heap.size + 1 := by rw [hw5]; simp
  have hlt : xb < w.heap.size := (Array.getElem?_eq_some_iff.1 hx).1
  have h6 : w6.heap[xb]? = some (.cells #[nv, dv, lv] 46 (0, 0)) := by
    subst hw5
    exact (grown_keep hgrow hne hlt).trans hx
  have f5 : Below H w w5 := by rw [hw5]; exact ((Below.refl w.heap.size w).alloc (Nat.le_refl _) o).mono hH3
  have f6 : Below H w w6 := f5.grown hgrow (by omega) (fun k hk => by have := h0.lt k hk; omega)
  refine ⟨by rw [heap_setCell_same (off := 2) h6]; rfl, ?_, f6.setCell hH2 _, h6⟩
  refine own_foot hown ((Foot.refl w6 (fun b => b = xb)).setCell (p := ⟨xb, 2, none⟩) (.inr rfl) lv') fun b hb e => ?_
  subst e
  rcases hat with q | q
  · rw [q] at hb; exact hne hb
  · rw [q] at hb; cases hb; omega

theorem walk6_in (path prefx : ByteArray) (na la : Option Addr) (nc lc : Nat) (s : Srv) (w : World) (hpp : hp path prefx = true) :
    Calls Try.prog 6 #[.agg #[.slice na s.names.length nc, .bool s.dflt, .slice la s.locs.length lc], .string path, .string prefx] w (BoolBelow true w) := by
  have HH := Lib.hid hpp
  clear hpp
  go_enter Try.func6, Try.ntmps6
  go_wp2_with (go_at_call 17; refine (begins_any _ _ _).mono ?_; rintro e w' ⟨rfl, rfl⟩; rw [HH.out])
  refine (knows_any _).mono ?_
  rintro e w5 ⟨rfl, hb5⟩
  have HB5 := Lib.hid (((Below.refl _ w).alloc (Nat.le_refl _) _).trans (hb5.mono (by simp)))
  clear hb5
  go_wp2_with fail
  go_ret
  exact ⟨rfl, HB5.out⟩

set_option maxHeartbeats 4000000 in
set_option maxRecDepth 100000 in
theorem walk6_out (path prefx : ByteArray) (na la : Option Addr) (nc lc : Nat) (s : Srv) (w : World) (h : SrvArg w na nc la lc s) (hp1 : path.size ≤ 4611686018427387904) (hpp : hp path prefx = false) :
    Calls Try.prog 6 #[.agg #[.slice na s.names.length nc, .bool s.dflt, .slice la s.locs.length lc], .string path, .string prefx] w (BoolBelow true w) := by
  have H := Lib.hid h
  have HH := Lib.hid hpp
  have hll := h.ok.llen
  have hfl := h.fit.llen
  clear h hpp
  go_enter Try.func6, Try.ntmps6
  go_wp2_with (go_at_call 17; refine (begins_any _ _ _).mono ?_; rintro e w' ⟨rfl, rfl⟩; rw [HH.out])
  have hb0 : Below w.heap.size w ((w.alloc (.cells #[.slice na s.names.length nc, .bool s.dflt, .slice la s.locs.length lc] 50)).alloc (.cells #[.slice na s.names.length nc, .bool s.dflt, .slice la s.locs.length lc] 50)) := ((Below.refl _ w).alloc (Nat.le_refl _) _).alloc (by simp) _
  have hg1 : ((w.alloc (.cells #[.slice na s.names.length nc, .bool s.dflt, .slice la s.locs.length lc] 50)).alloc (.cells #[.slice na s.names.length nc, .bool s.dflt, .slice la s.locs.length lc] 50)).heap[w.heap.size + 1]? = some (.cells #[.slice na s.names.length nc, .bool s.dflt, .slice la s.locs.length lc] 50 (0, 0)) := heap_alloc2_new _ _ _
  generalize ((w.alloc (.cells #[.slice na s.names.length nc, .bool s.dflt, .slice la s.locs.length lc] 50)).alloc (.cells #[.slice na s.names.length nc, .bool s.dflt, .slice la s.locs.length lc] 50)) = w1 at hb0 hg1 ⊢
  have hs1 := one_srv hg1 (H.out.names.below hb0) (H.out.locs.below hb0) H.out.nil
  have HB0 := Lib.hid hb0
  have HS1 := Lib.hid hs1
  clear hb0 hg1 hs1
  refine (own_any 0 0 0 0 none (some ⟨w.heap.size + 1, 0, none⟩) 0 1 [] [s] w1 (upss_nil _) HS1.out (by simp) (by simp) (by simp) (by intro x hx; simp at hx; subst hx; exact H.out.fit)).mono ?_
  intro e w2 h2
  obtain ⟨uv, sv, urows, rows, base, rfl, hb2, hbase, hu, hum, hs2, hsm⟩ := h2
  obtain ⟨r, rfl⟩ : ∃ r, rows = [r] := by
    have hl : rows.length = 1 := by have := congrArg List.length hsm; simpa using this
    match rows, hl with
    | [r], _ => exact ⟨r, rfl⟩
  have hrs : r.s = s := by simpa using hsm
  obtain ⟨nv, lv, s'⟩ := r
  dsimp only at hrs
  subst hrs
  have hin := hs2.each _ (List.mem_singleton.2 rfl)
  obtain ⟨ua, uc, rfl, -⟩ := own_shape hu.row
  obtain ⟨sa, sc, rfl, -⟩ := own_shape hs2.row
  obtain ⟨na2, nc2, hnv, -⟩ := own_shape hin.names
  obtain ⟨la2, lc2, hlv, -⟩ := own_shape hin.locs
  dsimp only at hnv hlv hin
  subst hnv; subst hlv
  have hlocs : w2.ownsRow base 58 12 (.slice la2 s'.locs.length lc2) s'.locs.length (s'.locs.flatMap locVals) := hin.locs
  obtain ⟨b, e3, hbb, hbl, hc⟩ := own_cells hs2.row (by simp)
  have hbz : base ≤ w2.heap.size := by omega
  have c0 : w2.cell? ⟨b, 0, none⟩ = some (.slice na2 s'.names.length nc2) := hc 0 _ rfl
  have c1 : w2.cell? ⟨b, 1, none⟩ = some (.bool s'.dflt) := hc 1 _ rfl
  have c2 : w2.cell? ⟨b, 2, none⟩ = some (.slice la2 s'.locs.length lc2) := hc 2 _ rfl
  subst e3
  have HB2 := Lib.hid (HB0.out.trans (hb2.mono HB0.out.size))
  have HLO := Lib.hid hlocs
  have HBA := Lib.hid (Nat.le_trans HB0.out.size hbase)
  have hfd := field5 0 0 0 0 ua (some ⟨b, 0, none⟩) urows.length uc 1 sc
  have hul : urows.length = 0 := by have := congrArg List.length hum; simpa using this
  rw [hul] at hfd ⊢
  rw [show [(⟨.slice na2 s'.names.length nc2, .slice la2 s'.locs.length lc2, s'⟩ : SR)].length = 1 from rfl]
  clear hu hum hs2 hsm hin hlocs hc hb2 hbase hul
  go_wp2_with fail
  clear hfd
  have hx1 : (w2.alloc (.cells #[.slice na2 s'.names.length nc2, .bool s'.dflt, .slice la2 s'.locs.length lc2] 46)).heap[w2.heap.size]? = some (.cells #[.slice na2 s'.names.length nc2, .bool s'.dflt, .slice la2 s'.locs.length lc2] 46 (0, 0)) := heap_alloc_new _ _
  have hb3 : Below w.heap.size w (w2.alloc (.cells #[.slice na2 s'.names.length nc2, .bool s'.dflt, .slice la2 s'.locs.length lc2] 46)) := HB2.out.alloc HB2.out.size _
  have hl3 := own_foot HLO.out ((Foot.refl w2 (fun _ => False)).alloc (.cells #[.slice na2 s'.names.length nc2, .bool s'.dflt, .slice la2 s'.locs.length lc2] 46)) (fun _ _ => id)
  have hne : (Value.slice la2 s'.locs.length lc2).ownBlock ≠ some w2.heap.size := fun e => by have := HLO.out.lt _ e; omega
  obtain ⟨xb, hxb⟩ : ∃ xb, xb = w2.heap.size := ⟨_, rfl⟩
  have hxl : w.heap.size ≤ xb := by have := HB2.out.size; omega
  have hbx : base ≤ xb := by omega
  rw [← hxb] at hx1 hne ⊢
  generalize (w2.alloc (.cells #[.slice na2 s'.names.length nc2, .bool s'.dflt, .slice la2 s'.locs.length lc2] 46)) = w3 at hx1 hb3 hl3 ⊢
  have HX := Lib.hid hx1
  have HB3 := Lib.hid hb3
  have HL3 := Lib.hid hl3
  have HNE := Lib.hid hne
  clear hx1 hb3 hl3 hne c0 c1 c2 hbl hxb HLO HB2 hbb hbz
  refine (location_any path na2 la2 s'.names.length nc2 lc2 s'.dflt s'.locs w3 hp1 (own_elems locVals_length HL3.out rfl) hll).mono ?_
  rintro e w4 ⟨rfl, hb4⟩
  have hlm := locAt_more s'.locs HH.out
  have hlo2 : locOf path (s'.locs ++ [pre1 prefx]) = locOf path s'.locs := by unfold locOf; rw [hlm]
  have HLM := Lib.hid hlo2
  obtain ⟨kv, bv, hkb⟩ : ∃ kv bv, locOf path s'.locs = .tuple #[.int .i64 kv, .bool bv] := ⟨_, _, rfl⟩
  rw [hkb]
  have HKB := Lib.hid hkb
  have HB4 := Lib.hid (HB3.out.trans (hb4.mono HB3.out.size))
  have hx4 := (hb4.block xb (Array.getElem?_eq_some_iff.1 HX.out).1).trans HX.out
  have HL4 := Lib.hid (own_foot HL3.out (Foot.ofBelow hb4 (fun _ => False)) (fun _ _ => id))
  have HX4 := Lib.hid hx4
  obtain ⟨s0, s1, s2, f0, f1, f2, sl⟩ := cells3f hx4
  obtain ⟨i0, hi, hz0, hz1, hz2⟩ := info_parts info58
  clear hlm hlo2 hkb hb4 hx4
  go_upto_region 5 with fail
  go_region_law (first | (refine step_append_at rfl (.tmp 30) (.tmp 34) 44 rfl base 58 i0 zLoc 12 136 Try.underlying44 hi hz0 hz1 hz2 rfl (by decide) (.slice la2 s'.locs.length lc2) s'.locs.length (s'.locs.flatMap locVals) (by simp [Act.eval]) (by exact own_foot HC.out.2.1 ((Foot.refl w5 (fun _ => False)).alloc _) (fun _ _ => id)) ⟨w5.heap.size, 0, none⟩ 1 1 (locVals (pre1 prefx)) (by simp [Act.eval]) rfl (by exact news_block (heap_alloc_new _ _)) (locVals_one _) (by unfold maxLen; omega) (by omega) (Nat.le_trans HC.out.2.2.2 (by simp)) ?_; intro lv2 w6 hown hgrow hat; have hpu := push1 HC.out.1 HC.out.2.1 HNE.out HBA.out hxl HC.out.2.2.1.size rfl hown hgrow hat; obtain ⟨la5, lc5, hlv, -⟩ := own_shape hown; subst hlv; obtain ⟨t0, t1, t2, g0, g1, g2, tl⟩ := cells3f hpu.2.2.2; have HP := Lib.hid hpu; clear hown hgrow hat hpu) | (refine step_call19 rfl (.tmp 32) rfl _ (by rfl) (fun u w5 => u = (.agg #[.string prefx, .int .i64 0, .string ⟨#[]⟩, .string ⟨#[]⟩, .int .i64 0, .int .i64 0, .string ⟨#[]⟩, .bool false, .int .i64 0, .int .i64 0, .int .i64 0, .string ⟨#[]⟩]) ∧ Below w4.heap.size w4.drew w5) ((ownLoc_lit (pre1 prefx) _).mono fun e w' ⟨he, hb⟩ => ⟨_, he, rfl, hb⟩) ?_; rintro u w5 ⟨rfl, hb5⟩; have hb6 : Below w4.heap.size w4 w5 := ((Below.refl _ w4).drew).trans hb5; have hx5 := (hb6.block xb sl).trans HX4.out; have hl5 := own_foot HL4.out (Foot.ofBelow hb6 (fun _ => False)) (fun _ _ => id); have hb7 := HB4.out.trans (hb6.mono HB4.out.size); obtain ⟨t0, t1, t2, g0, g1, g2, tl⟩ := cells3f hx5; have zz : ∀ o, (w5.alloc o).cell? ⟨xb, 2, none⟩ = some (.slice la2 s'.locs.length lc2) := fun o => cell_alloc t2 o; have hbs : base ≤ w5.heap.size := (by omega); have HC := Lib.hid (And.intro hx5 (And.intro hl5 (And.intro hb7 hbs))); clear hb5 hb6 hx5 hl5 hb7 hbs))
  all_goals
    obtain ⟨hx7, hl7, hb7, -⟩ := HP.out
    generalize (w6.setCell ⟨xb, 2, none⟩ (.slice la5 (s'.locs.length + 1) lc5)) = w7 at hx7 hl7 hb7 ⊢
    have hln : s'.locs.length + 1 = (s'.locs ++ [pre1 prefx]).length := by simp
    have hcl := location_any path na2 la5 s'.names.length nc2 lc5 s'.dflt (s'.locs ++ [pre1 prefx]) w7 hp1 (own_elems locVals_length (L := s'.locs ++ [pre1 prefx]) (by rw [List.flatMap_append, show [pre1 prefx].flatMap locVals = locVals (pre1 prefx) by simp]; exact hl7) hln) (by rw [← hln]; omega)
    rw [← hln] at hcl
    have HCL := Lib.hid hcl
    have HB7 := Lib.hid (HC.out.2.2.1.trans hb7)
    obtain ⟨r0, r1, r2, -⟩ := cells3f hx7
    clear hcl hx7 hl7 hb7 hln s0 s1 s2 f0 f1 f2 sl t0 t1 t2 g0 g1 g2 tl zz HP
    go_wp2_with fail
    refine HCL.out.mono ?_
    rintro e w8 ⟨rfl, hb8⟩
    rw [HLM.out, HKB.out]
    have HB8 := Lib.hid (HB7.out.trans (hb8.mono HB7.out.size))
    clear hb8
    go_wp2_with fail
    refine (knows_any _).mono ?_
    rintro e w9 ⟨rfl, hb9⟩
    have HB9 := Lib.hid (HB8.out.trans (hb9.mono HB8.out.size))
    clear hb9
    go_wp2_with fail
    go_ret
    exact ⟨rfl, HB9.out⟩

theorem walk6 (path prefx : ByteArray) (na la : Option Addr) (nc lc : Nat) (s : Srv) (w : World) (h : SrvArg w na nc la lc s) (hp1 : path.size ≤ 4611686018427387904) :
    Calls Try.prog 6 #[.agg #[.slice na s.names.length nc, .bool s.dflt, .slice la s.locs.length lc], .string path, .string prefx] w (BoolBelow true w) := by
  cases hq : hp path prefx with
  | true => exact walk6_in path prefx na la nc lc s w hq
  | false => exact walk6_out path prefx na la nc lc s w h hp1 hq
end Go.Proofs.Ytlaoeciflifggaa.Rt
