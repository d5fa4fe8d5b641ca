/- The contracts of the reference's Limiter: Left. -/
import Derived.Test.YtmdallmbmjcdfaaRef
set_option linter.unusedVariables false
namespace Go.Proofs.Ytmdallmbmjcdfaa.Rf
open Go.RowKit Go.Proofs.Ytmdallmbmjcdfaa.Lm

theorem drew3 (w : World) (a b c : Nat) : ∃ m, ((w.drewN a).drewN b).drewN c = w.drewN m := ⟨a + b + c, by rw [World.drewN_drewN, World.drewN_drewN, Nat.add_assoc]⟩

set_option maxHeartbeats 1600000 in
theorem left_none (c : Nat) (sv : Value) (s : LS) (k : ByteArray) (now : Int) (w : World) (hw : RefW w c sv s) (hs : Ok s) (hf : find s.l k = none) :
    Calls Try.prog 27 #[.pointer (some ⟨c, 0, none⟩), .string k, .int .i64 now] w fun e w' => e = .returned (.int .i64 (left s k now)) ∧ ∃ n, w' = w.drewN n := by
  obtain ⟨d0, d1, d2, d3, d4, dr, dlt⟩ := cells5 hw.1
  have hr1 := hs.rate1
  have hr2 := hs.rate2
  have hf1 := hs.full1
  have hf2 := hs.full2
  have hl : left s k now = s.full := by simp [left, hf]
  have hfn := fun n => find_none c sv s k (w.drewN n) hw hs hf
  have HF := Lib.hid hfn
  have HL := Lib.hid hl
  clear hw hs hf hl hfn
  generalize hbu : s.full - s.rate = bu at d1
  have HB := Lib.hid hbu
  have hbu0 : 0 ≤ bu := by omega
  have hbu1 : bu ≤ 2000000 := by omega
  clear hbu hf1 hf2
  have e1 : IntKind.i64.wrap (s.rate + bu) = s.rate + bu := by rw [IntKind.wrap_i64]; omega
  go_enter Try.func27, Try.ntmps27
  go_wp2
  go_quiet (fail)
  clear e1
  go_wp2_with (go_at_call 30; refine (HF.out nq).mono ?_; rintro e w' ⟨rfl, rfl⟩)
  go_ret
  exact ⟨ret_int (by rw [HL.out]; have := HB.out; omega), _, rfl⟩

set_option maxHeartbeats 1600000 in
theorem left_some (c : Nat) (sv : Value) (s : LS) (k : ByteArray) (now : Int) (w : World) (hw : RefW w c sv s) (hs : Ok s) (n a : Int) (hf : find s.l k = some (n, a)) :
    Calls Try.prog 27 #[.pointer (some ⟨c, 0, none⟩), .string k, .int .i64 now] w fun e w' => e = .returned (.int .i64 (left s k now)) ∧ ∃ n, w' = w.drewN n := by
  obtain ⟨va, vc, rfl⟩ := ownsRow_shape hw.2
  obtain ⟨d0, d1, d2, d3, d4, dr, dlt⟩ := cells5 hw.1
  have hr1 := hs.rate1
  have hr2 := hs.rate2
  have hf1 := hs.full1
  have hf2 := hs.full2
  obtain ⟨i, hi, hb, _⟩ := find_pos hf
  have hil := (List.getElem?_eq_some_iff.1 hi).1
  have hlen : s.l.length ≤ 1000 := by have := hs.count; have := hs.keys2; omega
  obtain ⟨g, rfl, e0, e1, e2⟩ := hw.elem hi
  dsimp only at e0 e1 e2
  have hbd := hs.each _ (find_mem hf)
  simp only at hbd
  obtain ⟨b1, b2, b3, b4⟩ := hbd
  have hcl := clock_bd hs now
  have hck := ref_clock hs now
  have hnow := hs.now2
  have hbig := fun q => ref_big hs hf now q
  have hsm := fun q => ref_small hs hf now q
  have hfn := fun n => find_some c _ s k (w.drewN n) hw hs i (n, a) 
  have HF : Hid (∀ q, Calls Try.prog 30 #[.pointer (some ⟨c, 0, none⟩), .string k] (w.drewN q) fun e w' => e = .returned (.int .i64 i) ∧ w.drewN q = w') := fun q => find_some c _ s k (w.drewN q) hw hs i (n, a) hi hb
  generalize clock s now = cl at hcl hck hbig hsm
  have HK := Lib.hid hck
  obtain ⟨c1, c2, c3'⟩ := hcl
  unfold last at c3' hnow
  have hfe : s.full = s.rate + (s.full - s.rate) := by omega
  generalize s.full - s.rate = bu at d1 hfe
  have HFE := Lib.hid hfe
  have hbu0 : 0 ≤ bu := by omega
  have hbu1 : bu ≤ 2000000 := by omega
  have hbu2 : s.rate + bu ≤ 2000000 := by omega
  have hn2 : n ≤ s.rate + bu := by omega
  clear hw hs hf hi hb hck hfn hf1 hf2 b2
  have x1 : IntKind.i64.wrap (s.rate + bu) = s.rate + bu := by rw [IntKind.wrap_i64]; omega
  by_cases hq : (s.rate + bu) / s.rate < cl - a
  · have hb' := hbig (by rw [HFE.out]; exact hq)
    have HL := Lib.hid hb'
    clear hb' hbig hsm hfe
    go_enter Try.func27, Try.ntmps27
    go_wp2
    go_quiet (fail)
    clear x1
    go_wp2_with (go_at_call 30; refine (HF.out nq).mono ?_; rintro e w' ⟨rfl, rfl⟩)
    obtain ⟨w2, hw2⟩ : ∃ w2, w2 = w.drewN nq := ⟨_, rfl⟩
    rw [← hw2]
    have d0' : w2.cell? ⟨c, 0, none⟩ = some (.int .i64 s.rate) := by rw [hw2]; exact d0
    have d3' : w2.cell? ⟨c, 3, none⟩ = some (.int .i64 s.now) := by rw [hw2]; exact d3
    have d4' : w2.cell? ⟨c, 4, none⟩ = some (.slice (some ⟨g, 0, none⟩) s.l.length vc) := by rw [hw2]; exact d4
    have e1' : w2.cell? ⟨g, i * 3 + 1, none⟩ = some (.int .i64 n) := by rw [hw2]; exact e1
    have e2' : w2.cell? ⟨g, i * 3 + 2, none⟩ = some (.int .i64 a) := by rw [hw2]; exact e2
    have HW2 := Lib.hid hw2
    clear hw2
    go_quiet ((go_at_call 31; exact Calls.quiet_of_same ((time_any c s.now now _ (by exact d3')).mono (fun _ _ ⟨h1, h2⟩ => ⟨h1.trans (ret_int HK.out), h2.symm⟩))))
    go_wp2
    go_ret
    exact ⟨ret_int (by rw [HL.out, ← HFE.out]), by rw [HW2.out]; first | exact ⟨_, World.drewN_drewN _ _ _⟩ | exact drew3 _ _ _ _⟩
  · obtain ⟨hb', hsle⟩ := hsm (by rw [HFE.out]; exact hq)
    have HL := Lib.hid hb'
    have hsle' : cl - a ≤ 2000000 := by omega
    obtain ⟨m1, m2⟩ := mul_bd (show 0 ≤ cl - a by omega) hsle' hr1 hr2
    clear hb' hbig hsm hfe hsle
    go_enter Try.func27, Try.ntmps27
    go_wp2
    go_quiet (fail)
    clear x1
    go_wp2_with (go_at_call 30; refine (HF.out nq).mono ?_; rintro e w' ⟨rfl, rfl⟩)
    obtain ⟨w2, hw2⟩ : ∃ w2, w2 = w.drewN nq := ⟨_, rfl⟩
    rw [← hw2]
    have d0' : w2.cell? ⟨c, 0, none⟩ = some (.int .i64 s.rate) := by rw [hw2]; exact d0
    have d3' : w2.cell? ⟨c, 3, none⟩ = some (.int .i64 s.now) := by rw [hw2]; exact d3
    have d4' : w2.cell? ⟨c, 4, none⟩ = some (.slice (some ⟨g, 0, none⟩) s.l.length vc) := by rw [hw2]; exact d4
    have e1' : w2.cell? ⟨g, i * 3 + 1, none⟩ = some (.int .i64 n) := by rw [hw2]; exact e1
    have e2' : w2.cell? ⟨g, i * 3 + 2, none⟩ = some (.int .i64 a) := by rw [hw2]; exact e2
    have HW2 := Lib.hid hw2
    clear hw2
    go_quiet ((go_at_call 31; exact Calls.quiet_of_same ((time_any c s.now now _ (by exact d3')).mono (fun _ _ ⟨h1, h2⟩ => ⟨h1.trans (ret_int HK.out), h2.symm⟩))))
    go_wp2
    have x2 : IntKind.i64.wrap ((cl - a) * s.rate) = (cl - a) * s.rate := by rw [IntKind.wrap_i64]; omega
    have x3 : IntKind.i64.wrap (n + (cl - a) * s.rate) = n + (cl - a) * s.rate := by rw [IntKind.wrap_i64]; omega
    go_quiet (fail)
    clear x2 x3
    go_wp2
    go_ret
    exact ⟨ret_int (by rw [HL.out, ← HFE.out]), by rw [HW2.out]; first | exact ⟨_, World.drewN_drewN _ _ _⟩ | exact drew3 _ _ _ _⟩

theorem left_any (c : Nat) (sv : Value) (s : LS) (k : ByteArray) (now : Int) (w : World) (hw : RefW w c sv s) (hs : Ok s) :
    Calls Try.prog 27 #[.pointer (some ⟨c, 0, none⟩), .string k, .int .i64 now] w fun e w' => e = .returned (.int .i64 (left s k now)) ∧ ∃ n, w' = w.drewN n := by
  cases hf : find s.l k with
  | none => exact left_none c sv s k now w hw hs hf
  | some p => exact left_some c sv s k now w hw hs p.1 p.2 hf
end Go.Proofs.Ytmdallmbmjcdfaa.Rf
