/- LimitsSoon: the walk. -/
import Derived.Test.YtmdallmbmjcdfaaStar
import Derived.Test.YtmdallmbmjcdfaaSoonP
import Derived.Test.YtmdallmbmjcdfaaAsk
set_option linter.unusedVariables false
namespace Go.Proofs.Ytmdallmbmjcdfaa.Soon
open Go.RowKit Go.Proofs.Ytmdallmbmjcdfaa.Lm

theorem tmod_bd (x : Int) : -9 ≤ x.tmod 10 ∧ x.tmod 10 ≤ 9 := by
  have h1 := Int.tmod_lt_of_pos x (show (0 : Int) < 10 by omega)
  have h2 := Int.lt_tmod_of_pos x (show (0 : Int) < 10 by omega)
  omega

def Rel (w wr : World) (b1 b2 : Nat) (len : Nat) (clk i : Value) : Prop :=
  ∃ (k : Nat) (c : Int) (s1 s2 : LS), i = .int .i64 k ∧ clk = .int .i64 c ∧ k ≤ len ∧ k ≤ 900 ∧ Sn s1 s2 c k ∧ Held w (Star (LimR b1 s1) (LimR b2 s2)) wr

set_option maxHeartbeats 8000000 in
set_option maxRecDepth 100000 in
theorem walk (a0 a1 : Int) (a : Option Addr) (len cap : Nat) (K : Nat → ByteArray) (T : Nat → Int) (L : Nat → Bool) (w : World) (hl : len ≤ maxLen) (hz : ∀ i, i < len → (Lit.int .i64 (T i)).wf = true) (hr : AsksAt w a len K T L) :
    Calls Try.prog 4 #[.int .i64 a0, .int .i64 a1, .slice a len cap] w fun e w' => e = .returned (.bool true) ∧ Below w.heap.size w w' := by
  have HR := Lib.hid hr
  clear hr hz
  have hl' : len ≤ 9223372036854775807 := by unfold maxLen at hl; omega
  clear hl
  obtain ⟨t0, t0'⟩ := tmod_bd a0
  obtain ⟨t1, t1'⟩ := tmod_bd a1
  go_enter Try.func4, Try.ntmps4
  go_wp2_with fail
  simp only [show (a0.tmod 10 + 10) % 10 = a0.tmod 10 % 10 from by omega, show (a1.tmod 10 + 10) % 10 = a1.tmod 10 % 10 from by omega]
  have hR1 : 1 ≤ 1 + a0.tmod 10 % 10 := by omega
  have hR2 : 1 + a0.tmod 10 % 10 ≤ 10 := by omega
  have hB1 : 0 ≤ a1.tmod 10 % 10 := by omega
  have hB2 : a1.tmod 10 % 10 ≤ 9 := by omega
  generalize 1 + a0.tmod 10 % 10 = R at hR1 hR2 ⊢
  generalize a1.tmod 10 % 10 = Bu at hB1 hB2 ⊢
  have hok : okArgs R Bu 1000 := by unfold okArgs; omega
  have HOK := Lib.hid hok
  clear hok
  refine (new_res w R Bu 1000 HOK.out).mono ?_
  rintro e u1 ⟨rfl, hb1, F1, hR, hF1⟩
  have hh := Held.first (Below.refl _ _) hb1 hR hF1
  have H1 := Lib.hid hh
  clear hh hb1 hR hF1
  go_wp2_with fail
  refine (new_res u1 R Bu 1000 HOK.out).mono ?_
  rintro e u2 ⟨rfl, hb1, F2, hR, hF2⟩
  have hh := H1.out.add (LimR.good _ _) hb1 hR hF2
  have H2 := Lib.hid hh
  clear hh hb1 hR hF2 H1
  go_wp2_with (first | (go_at_call 9; refine (num_any 0 _ (by omega) (by omega)).mono ?_; rintro e w' ⟨rfl, rfl⟩) | (go_at_call 10; refine (knows_any _).mono ?_; rintro e u3 ⟨rfl, hb'⟩; have HB' := Lib.hid hb'; clear hb'))
  have hh := H2.out.below ((LimR.good _ _).star (LimR.good _ _)) HB'.out
  have hsn : Sn (mk R Bu 1000) (mk R Bu 1000) 0 0 := ⟨mk_ok HOK.out, mk_ok HOK.out, rfl, rfl, rfl, rfl, by simp [mk], by simp [mk], by omega, by omega, rfl, by simp [mk], by simp [mk]⟩
  have HH := Lib.hid hh
  have HS := Lib.hid hsn
  clear H2 HB' hh hsn
  generalize w.heap.size + 1 = b1 at HH ⊢
  generalize u1.heap.size + 1 = b2 at HH ⊢
  go_loopw [11, 12] (fun c i wr => Rel w wr b1 b2 len c i) (fun _ i _ => 900 - (intOf i).toNat)
  case atStart => exact ⟨0, 0, _, _, rfl, rfl, by omega, by omega, HS.out, HH.out⟩
  case round =>
    obtain ⟨k, c, s1, s2, rfl, rfl, hk, hk9, hs, hh⟩ := hrel
    clear HH HS
    have HS := Lib.hid hs
    have HH := Lib.hid hh
    have hc0 := hs.c0
    have hc1 := hs.c1
    clear hs hh
    by_cases hgo : k < len ∧ k < 900
    · obtain ⟨hlt, hlt9⟩ := hgo
      obtain ⟨gb, off, rfl, hbl, kc, tc, lc⟩ := HR.out k hlt
      have hbe : ∀ o, wr.cell? ⟨gb, o, none⟩ = w.cell? ⟨gb, o, none⟩ := fun o => HH.out.1.cell (p := ⟨gb, o, none⟩) hbl
      have kw := (hbe _).trans kc
      have tw := (hbe _).trans tc
      clear hbe kc tc lc
      generalize K k = key at kw
      generalize T k = tm at tw
      go_wp2_with fail
      have hn1 : c ≤ max c (min (max tm 0) 549755813888) := by omega
      have hn2 : max c (min (max tm 0) 549755813888) ≤ 549755813888 := by omega
      generalize max c (min (max tm 0) 549755813888) = nx at hn1 hn2 ⊢
      refine (HH.out.calls ((allow_does b1 s1 key nx).left (LimR.good b2 s2))).mono ?_
      rintro e u ⟨rfl, hh⟩
      have ku : u.cell? ⟨gb, off + k * 3, none⟩ = some (.string key) := by
        rw [hh.1.cell (p := ⟨gb, off + k * 3, none⟩) hbl, ← HH.out.1.cell (p := ⟨gb, off + k * 3, none⟩) hbl]; exact kw
      have HU := Lib.hid hh
      clear hh HH kw tw
      by_cases hk : key = { data := #[97] }
      · subst hk
        have hst := HS.out.both hn1 hn2 (by omega)
        have hlf : Lm.left s2 { data := #[97] } nx = Lm.left s1 { data := #[97] } nx := HS.out.left hn1 (by unfold last; omega)
        have hlf2 : Lm.left (allow s2 { data := #[97] } nx) { data := #[97] } nx = Lm.left (allow s1 { data := #[97] } nx) { data := #[97] } nx := hst.left (Int.le_refl _) (by unfold last; omega)
        by_cases hp : 0 < Lm.left s1 { data := #[97] } nx
        · rw [decide_eq_true hp]
          have d1 := (allow_does b2 s2 { data := #[97] } nx).right (LimR.good b1 (allow s1 { data := #[97] } nx))
          rw [hlf, decide_eq_true hp] at d1
          have d2 := (left_does b1 (allow s1 { data := #[97] } nx) { data := #[97] } nx).left (LimR.good b2 (allow s2 { data := #[97] } nx))
          have d3 := (left_does b2 (allow s2 { data := #[97] } nx) { data := #[97] } nx).right (LimR.good b1 (allow s1 { data := #[97] } nx))
          rw [hlf2] at d3
          have HST : Hid (Sn (allow s1 { data := #[97] } nx) (allow s2 { data := #[97] } nx) nx (k + 1)) := hst
          have D1 := Lib.hid d1
          have D2 := Lib.hid d2
          have D3 := Lib.hid d3
          clear hst hlf hlf2 d1 d2 d3 hp
          generalize Lm.left (allow s1 { data := #[97] } nx) { data := #[97] } nx = lv at D2 D3
          go_wp2_with fail
          refine (HU.out.calls D1.out).mono ?_
          rintro e u2 ⟨rfl, hh⟩
          have HU2 := Lib.hid hh
          clear hh HU ku
          go_wp2_with fail
          refine (HU2.out.calls D2.out).mono ?_
          rintro e u3 ⟨rfl, hh⟩
          have HU3 := Lib.hid hh
          clear hh HU2
          go_wp2_with fail
          refine (HU3.out.calls D3.out).mono ?_
          rintro e u4 ⟨rfl, hh⟩
          have HU4 := Lib.hid hh
          clear hh HU3
          go_wp2
          go_roundw
          case rel => exact ⟨k + 1, nx, _, _, by go_num, rfl, by omega, by omega, HST.out, HU4.out⟩
          case measure => simp [intOf]; omega
        · rw [decide_eq_false hp]
          have hsoon : 1 ≤ Lm.left (allow s1 { data := #[97] } nx) { data := #[97] } (nx + 1) := HS.out.soon hn1 hn2 (by omega) hp
          have d1 := (allow_does b2 s2 { data := #[97] } nx).right (LimR.good b1 (allow s1 { data := #[97] } nx))
          rw [hlf, decide_eq_false hp] at d1
          have d2 := (left_does b1 (allow s1 { data := #[97] } nx) { data := #[97] } nx).left (LimR.good b2 (allow s2 { data := #[97] } nx))
          have d3 := (left_does b2 (allow s2 { data := #[97] } nx) { data := #[97] } nx).right (LimR.good b1 (allow s1 { data := #[97] } nx))
          have d4 := (left_does b1 (allow s1 { data := #[97] } nx) { data := #[97] } (nx + 1)).left (LimR.good b2 (allow s2 { data := #[97] } nx))
          rw [hlf2] at d3
          have HST : Hid (Sn (allow s1 { data := #[97] } nx) (allow s2 { data := #[97] } nx) nx (k + 1)) := hst
          have D1 := Lib.hid d1
          have D2 := Lib.hid d2
          have D3 := Lib.hid d3
          have D4 := Lib.hid d4
          clear hst hlf hlf2 d1 d2 d3 d4 hp
          generalize Lm.left (allow s1 { data := #[97] } nx) { data := #[97] } nx = lv at D2 D3
          generalize Lm.left (allow s1 { data := #[97] } nx) { data := #[97] } (nx + 1) = lw at D4 hsoon
          go_wp2_with fail
          refine (HU.out.calls D1.out).mono ?_
          rintro e u2 ⟨rfl, hh⟩
          have HU2 := Lib.hid hh
          clear hh HU ku
          go_wp2_with fail
          refine (HU2.out.calls D2.out).mono ?_
          rintro e u3 ⟨rfl, hh⟩
          have HU3 := Lib.hid hh
          clear hh HU2
          go_wp2_with fail
          refine (HU3.out.calls D3.out).mono ?_
          rintro e u4 ⟨rfl, hh⟩
          have HU4 := Lib.hid hh
          clear hh HU3
          go_wp2_with fail
          refine (HU4.out.calls D4.out).mono ?_
          rintro e u5 ⟨rfl, hh⟩
          have HU5 := Lib.hid hh
          clear hh HU4
          go_wp2
          go_roundw
          case rel => exact ⟨k + 1, nx, _, _, by go_num, rfl, by omega, by omega, HST.out, HU5.out⟩
          case measure => simp [intOf]; omega
      · have hst := HS.out.other key hk hn1 hn2 (by omega)
        have hne : (key.toList == [97]) = false := by
          rw [show ([97] : List UInt8) = ({ data := #[97] } : ByteArray).toList from by decide +kernel, ← beq_toListBytes, ← Bool.not_eq_true, MapKept.bytes_beq]; exact hk
        have hne' : (!(key.toList == [97])) = true := by rw [hne]; rfl
        have HST := Lib.hid hst
        clear hst hk
        go_wp2
        go_roundw
        case rel => exact ⟨k + 1, nx, _, _, by go_num, rfl, by omega, by omega, HST.out, HU.out⟩
        case measure => simp [intOf]; omega
    · have hd : (len ≤ k) ∨ (k < len ∧ 900 ≤ k) := by omega
      clear hgo
      rcases hd with hd | ⟨hd, hd3⟩
      all_goals
        go_wp2
        go_ret
        exact ⟨rfl, HH.out.1⟩
end Go.Proofs.Ytmdallmbmjcdfaa.Soon
