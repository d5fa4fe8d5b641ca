/- The contracts of limits.Limiter, the third part: Allow, Keys, New. -/
import Derived.Test.YtmdallmbmjcdfaaLimb
set_option linter.unusedVariables false
namespace Go.Proofs.Ytmdallmbmjcdfaa.Lm
open Go.RowKit

theorem Ok.tick {s : LS} (h : Ok s) {t : Int} (h1 : s.now ≤ t) (h2 : t ≤ last) : Ok { s with now := t } :=
  ⟨h.rate1, h.rate2, h.full1, h.full2, h.keys1, h.keys2, by have := h.now1; show 0 ≤ t; omega, h2, h.apart, h.count, fun e he => ⟨(h.each e he).1, (h.each e he).2.1, (h.each e he).2.2.1, Int.le_trans (h.each e he).2.2.2 h1⟩⟩
theorem Ok.sub {s : LS} (h : Ok s) {l : List Bk} (hl : l.Sublist s.l) : Ok { s with l := l } :=
  ⟨h.rate1, h.rate2, h.full1, h.full2, h.keys1, h.keys2, h.now1, h.now2, h.apart.sublist hl, by have := h.count; have := hl.length_le; show (l.length : Int) ≤ s.keys; omega, fun e he => h.each e (hl.subset he)⟩

theorem LimW.tick {b m : Nat} {sv : Value} {s : LS} {w : World} (h : LimW w b m sv s) (t : Int) : LimW (w.setCell ⟨b, 5, none⟩ (.int .i64 t)) b m sv { s with now := t } := by
  obtain ⟨q1, q2, q3⟩ := h.apart
  refine ⟨?_, h.2.1.keep (Below.heap_setCell _ _ _ _ (show m ≠ b from q1.symm)), ownsRow_keep h.2.2 (fun g hg _ => Below.heap_setCell _ _ _ _ (fun q => q2 (by rw [hg, q])))⟩
  rw [heap_setCell_same (off := 5) h.1]; rfl

theorem ownsRow_shape {w : World} {base : Nat} {e : TypeId} {size : Nat} {v : Value} {n : Nat} {xs : List Value} (h : w.ownsRow base e size v n xs) : ∃ a c, v = .slice a n c := by
  rcases h.2 with ⟨rfl, rfl⟩ | ⟨g, cap, cur, rfl, _⟩ <;> exact ⟨_, _, rfl⟩

set_option maxHeartbeats 1600000 in
set_option maxRecDepth 100000 in
theorem allow_there (b m : Nat) (sv : Value) (s : LS) (k : ByteArray) (now : Int) (w : World) (hw : LimW w b m sv s) (hs : Ok s) (z : Int × Int) (hf : find s.l k = some z) :
    Calls Try.prog 11 #[.pointer (some ⟨b, 0, none⟩), .string k, .int .i64 now] w fun e w' => e = .returned (.bool (decide (0 < left s k now))) ∧ ∃ sv', LimW w' b m sv' (allow s k now) ∧ Foot w w' (feet b m sv) ∧ (sv'.ownBlock = sv.ownBlock ∨ ∃ g, sv'.ownBlock = some g ∧ w.heap.size ≤ g) := by
  have hr1 := hs.rate1
  obtain ⟨c0, c1, c2, c3, c4, c5, cr, lt⟩ := cells6 hw.1
  have hlb := left_bd hs k now
  have hck : clock s now = max s.now (min now 1099511627776) := by simp [clock, last]
  have hcl := clock_bd hs now
  have hroom : roomed s k = s.l := by unfold roomed; rw [if_neg (by simp [hf])]
  have hfin : allow s k now = { s with l := drop s.l k ++ [(k, max (left s k now - 1) 0, clock s now)], now := clock s now } := by simp [allow, hroom]
  have HR := Lib.hid hfin
  have HLF := left_any b m sv s k now w hw hs
  generalize hL : left s k now = n at *
  generalize hC : clock s now = cl at *
  have HC := Lib.hid hck
  have HO := Lib.hid hs
  have HW := Lib.hid hw
  have HZ := Lib.hid hf
  obtain ⟨hl1, hl2⟩ := hlb
  have hf2 := hs.full2
  have HCL := Lib.hid hcl
  have H0 := Lib.hid HLF
  clear hw hs hfin hroom hck hL hC hf hcl HLF
  go_enter Try.func11, Try.ntmps11
  go_wp2_with (first | (go_at_call 23; refine (none_no b s.rate _ hr1 c2).mono ?_; rintro e w' ⟨rfl, rfl⟩) | fail)
  refine H0.out.mono ?_
  rintro e w1 ⟨rfl, hb1⟩
  have hw1 := HW.out.below hb1
  obtain ⟨d0, d1, d2, d3, d4, d5, dr, dlt⟩ := cells6 hw1.1
  have HB1 := Lib.hid hb1
  have HW1 := Lib.hid hw1
  clear hb1 hw1
  have hlk : (Instr.lookup 51 (.map (some m)) (.string k) true).run Try.prog (w1.setCell ⟨b, 5, none⟩ (.int .i64 cl)) = .ok (.tuple #[.agg #[.int .i64 z.1, .int .i64 z.2], .bool true]) (w1.setCell ⟨b, 5, none⟩ (.int .i64 cl)) := by
    have h := (HW1.out.tick cl).2.1.lookup Try.underlying51 Try.underlying9 k (zero61 (w1.setCell ⟨b, 5, none⟩ (.int .i64 cl)))
    have hl : look s.l k = some (bv z) := by simp [look, HZ.out]
    dsimp only at h
    rw [hl] at h
    exact h
  have HLK := Lib.hid hlk
  clear hlk
  go_wp2_with (first | (go_at_call 24; refine (clock_any b s.now now _ d5).mono ?_; rintro e w' ⟨rfl, rfl⟩; rw [← HC.out]) | (at_lookup; refine wpList_lookup_str _ rfl _ _ 51 rfl _ m k rfl rfl HLK.out ?_))
  go_quiet (fail)
  have hw3 := ((HW1.out.tick cl).alloc (.cells #[.int .i64 z.1, .int .i64 z.2] 61)).drewN nq
  have hf3 : Foot w (((w1.setCell ⟨b, 5, none⟩ (.int .i64 cl)).alloc (.cells #[.int .i64 z.1, .int .i64 z.2] 61)).drewN nq) (feet b m sv) :=
    Foot.drewN (Foot.alloc (Foot.setCell (Foot.ofBelow HB1.out _) (.inr (.inl rfl)) _) _) _
  generalize (((w1.setCell ⟨b, 5, none⟩ (.int .i64 cl)).alloc (.cells #[.int .i64 z.1, .int .i64 z.2] 61)).drewN nq) = w3 at hw3 hf3 ⊢
  obtain ⟨e0, e1, e2, e3, e4, e5, er, elt⟩ := cells6 hw3.1
  dsimp only at e0 e1 e2 e3 e4 e5
  have HO3 := Lib.hid (HO.out.tick (t := cl) HCL.out.2.1 HCL.out.2.2)
  have HW3 := Lib.hid hw3
  have HF3 := Lib.hid hf3
  clear hw3 hf3 HB1 HW1 d0 d1 d2 d3 d4 d5 dr dlt HLK
  go_wp2
  have hwr : IntKind.i64.wrap (n - 1) = n - 1 := by rw [IntKind.wrap_i64]; omega
  have hmx : (if n - 1 < 0 then 0 else n - 1) = max (n - 1) 0 := by split <;> omega
  go_still_tail 12, (by kernel_rfl)
  clear hmx hwr
  change wpList _ _ _ _ _ w3.drew
  go_wp2_with (go_at_call 26; refine (touch_any b m sv { s with now := cl } k _ cl w3.drew HW3.out HO3.out).mono ?_; rintro e w4 ⟨rfl, sv4, hw4, hf4, ho4⟩; have H4 := Lib.hid (And.intro hw4 (And.intro hf4 ho4)); clear hw4 hf4 ho4)
  go_ret
  obtain ⟨hw4, hf4, ho4⟩ := H4.out
  refine ⟨by simp, sv4, ?_, ?_, ?_⟩
  · rw [HR.out]; exact hw4
  · exact HF3.out.trans (Foot.trans (Foot.drew (Foot.refl w3 (feet b m sv))) hf4 (fun _ _ h => h)) (fun _ _ h => h)
  · exact ho4.imp id (fun ⟨g, hg1, hg2⟩ => ⟨g, hg1, Nat.le_trans HF3.out.size hg2⟩)

set_option maxHeartbeats 1600000 in
set_option maxRecDepth 100000 in
theorem allow_room (b m : Nat) (sv : Value) (s : LS) (k : ByteArray) (now : Int) (w : World) (hw : LimW w b m sv s) (hs : Ok s) (hf : find s.l k = none) (hne : (s.l.length : Int) ≠ s.keys) :
    Calls Try.prog 11 #[.pointer (some ⟨b, 0, none⟩), .string k, .int .i64 now] w fun e w' => e = .returned (.bool (decide (0 < left s k now))) ∧ ∃ sv', LimW w' b m sv' (allow s k now) ∧ Foot w w' (feet b m sv) ∧ (sv'.ownBlock = sv.ownBlock ∨ ∃ g, sv'.ownBlock = some g ∧ w.heap.size ≤ g) := by
  have hr1 := hs.rate1
  obtain ⟨c0, c1, c2, c3, c4, c5, cr, lt⟩ := cells6 hw.1
  have hlb := left_bd hs k now
  have hck : clock s now = max s.now (min now 1099511627776) := by simp [clock, last]
  have hcl := clock_bd hs now
  have hroom : roomed s k = s.l := by unfold roomed; rw [if_neg (fun q => hne q.2)]
  have hfin : allow s k now = { s with l := drop s.l k ++ [(k, max (left s k now - 1) 0, clock s now)], now := clock s now } := by simp [allow, hroom]
  have HR := Lib.hid hfin
  have HLF := left_any b m sv s k now w hw hs
  generalize hL : left s k now = n at *
  generalize hC : clock s now = cl at *
  have HC := Lib.hid hck
  have HO := Lib.hid hs
  have HW := Lib.hid hw
  have HZ := Lib.hid hf
  obtain ⟨hl1, hl2⟩ := hlb
  have hf2 := hs.full2
  have HCL := Lib.hid hcl
  have H0 := Lib.hid HLF
  clear hw hs hfin hroom hck hL hC hf hcl HLF
  go_enter Try.func11, Try.ntmps11
  go_wp2_with (first | (go_at_call 23; refine (none_no b s.rate _ hr1 c2).mono ?_; rintro e w' ⟨rfl, rfl⟩) | fail)
  refine H0.out.mono ?_
  rintro e w1 ⟨rfl, hb1⟩
  have hw1 := HW.out.below hb1
  obtain ⟨d0, d1, d2, d3, d4, d5, dr, dlt⟩ := cells6 hw1.1
  have HB1 := Lib.hid hb1
  have HW1 := Lib.hid hw1
  clear hb1 hw1
  have hlk : (Instr.lookup 51 (.map (some m)) (.string k) true).run Try.prog (w1.setCell ⟨b, 5, none⟩ (.int .i64 cl)) = .ok (.tuple #[.agg #[.int .i64 0, .int .i64 0], .bool false]) (w1.setCell ⟨b, 5, none⟩ (.int .i64 cl)) := by
    have h := (HW1.out.tick cl).2.1.lookup Try.underlying51 Try.underlying9 k (zero61 (w1.setCell ⟨b, 5, none⟩ (.int .i64 cl)))
    have hl : look s.l k = none := by simp [look, HZ.out]
    dsimp only at h
    rw [hl] at h
    exact h
  have HLK := Lib.hid hlk
  clear hlk
  go_wp2_with (first | (go_at_call 24; refine (clock_any b s.now now _ d5).mono ?_; rintro e w' ⟨rfl, rfl⟩; rw [← HC.out]) | (at_lookup; refine wpList_lookup_str _ rfl _ _ 51 rfl _ m k rfl rfl HLK.out ?_))
  obtain ⟨sa, sc, hsv⟩ := ownsRow_shape HW.out.2.2
  subst hsv
  have hbq : ((s.l.length : Int) == s.keys) = false := by simp; exact hne
  have x1 : ∀ n, (((w1.setCell ⟨b, 5, none⟩ (.int .i64 cl)).alloc (.cells #[.int .i64 0, .int .i64 0] 61)).drewN n).cell? ⟨b, 1, none⟩ = some (.slice sa s.l.length sc) := fun n => (cells6 ((HW1.out.tick cl).alloc (.cells #[.int .i64 0, .int .i64 0] 61)).1).2.1
  have x4 : ∀ n, (((w1.setCell ⟨b, 5, none⟩ (.int .i64 cl)).alloc (.cells #[.int .i64 0, .int .i64 0] 61)).drewN n).cell? ⟨b, 4, none⟩ = some (.int .i64 s.keys) := fun n => (cells6 ((HW1.out.tick cl).alloc (.cells #[.int .i64 0, .int .i64 0] 61)).1).2.2.2.2.1
  go_quiet (fail)
  clear x1 x4 hbq
  have hw3 := ((HW1.out.tick cl).alloc (.cells #[.int .i64 0, .int .i64 0] 61)).drewN nq
  have hf3 : Foot w (((w1.setCell ⟨b, 5, none⟩ (.int .i64 cl)).alloc (.cells #[.int .i64 0, .int .i64 0] 61)).drewN nq) (feet b m (.slice sa s.l.length sc)) :=
    Foot.drewN (Foot.alloc (Foot.setCell (Foot.ofBelow HB1.out _) (.inr (.inl rfl)) _) _) _
  generalize (((w1.setCell ⟨b, 5, none⟩ (.int .i64 cl)).alloc (.cells #[.int .i64 0, .int .i64 0] 61)).drewN nq) = w3 at hw3 hf3 ⊢
  obtain ⟨e0, e1, e2, e3, e4, e5, er, elt⟩ := cells6 hw3.1
  dsimp only at e0 e1 e2 e3 e4 e5
  have HO3 := Lib.hid (HO.out.tick (t := cl) HCL.out.2.1 HCL.out.2.2)
  have HW3 := Lib.hid hw3
  have HF3 := Lib.hid hf3
  clear hw3 hf3 HB1 HW1 d0 d1 d2 d3 d4 d5 dr dlt HLK
  go_wp2
  have hwr : IntKind.i64.wrap (n - 1) = n - 1 := by rw [IntKind.wrap_i64]; omega
  have hmx : (if n - 1 < 0 then 0 else n - 1) = max (n - 1) 0 := by split <;> omega
  go_still_tail 12, (by kernel_rfl)
  clear hmx hwr
  change wpList _ _ _ _ _ w3.drew
  go_wp2_with (go_at_call 26; refine (touch_any b m _ { s with now := cl } k _ cl w3.drew HW3.out HO3.out).mono ?_; rintro e w4 ⟨rfl, sv4, hw4, hf4, ho4⟩; have H4 := Lib.hid (And.intro hw4 (And.intro hf4 ho4)); clear hw4 hf4 ho4)
  go_ret
  obtain ⟨hw4, hf4, ho4⟩ := H4.out
  refine ⟨by simp, sv4, ?_, ?_, ?_⟩
  · rw [HR.out]; exact hw4
  · exact HF3.out.trans (Foot.trans (Foot.drew (Foot.refl w3 (feet b m (.slice sa s.l.length sc)))) hf4 (fun _ _ h => h)) (fun _ _ h => h)
  · exact ho4.imp id (fun ⟨g, hg1, hg2⟩ => ⟨g, hg1, Nat.le_trans HF3.out.size hg2⟩)
set_option maxHeartbeats 1600000 in
set_option maxRecDepth 100000 in
theorem allow_full (b m : Nat) (sv : Value) (s : LS) (k : ByteArray) (now : Int) (w : World) (hw : LimW w b m sv s) (hs : Ok s) (hf : find s.l k = none) (hne : (s.l.length : Int) = s.keys) :
    Calls Try.prog 11 #[.pointer (some ⟨b, 0, none⟩), .string k, .int .i64 now] w fun e w' => e = .returned (.bool (decide (0 < left s k now))) ∧ ∃ sv', LimW w' b m sv' (allow s k now) ∧ Foot w w' (feet b m sv) ∧ (sv'.ownBlock = sv.ownBlock ∨ ∃ g, sv'.ownBlock = some g ∧ w.heap.size ≤ g) := by
  have hr1 := hs.rate1
  obtain ⟨c0, c1, c2, c3, c4, c5, cr, lt⟩ := cells6 hw.1
  have hlb := left_bd hs k now
  have hck : clock s now = max s.now (min now 1099511627776) := by simp [clock, last]
  have hcl := clock_bd hs now
  have hroom : roomed s k = s.l.tail := by unfold roomed; rw [if_pos ⟨hf, hne⟩]
  obtain ⟨e0, tl, hcons⟩ : ∃ e0 tl, s.l = e0 :: tl := by
    cases hq : s.l with
    | nil => have := hs.keys1; rw [hq] at hne; simp at hne; omega
    | cons x l => exact ⟨x, l, rfl⟩
  have hdt : drop s.l e0.1 = tl := by rw [hcons]; simp [drop]
  have htl : roomed s k = tl := by rw [hroom, hcons]; rfl
  have HT := Lib.hid (And.intro hcons (And.intro hdt htl))
  have hpos : 0 < s.l.length := by rw [hcons]; simp
  clear hcons hdt
  have hfin : allow s k now = { s with l := drop tl k ++ [(k, max (left s k now - 1) 0, clock s now)], now := clock s now } := by simp [allow, htl]
  have HR := Lib.hid hfin
  have HLF := left_any b m sv s k now w hw hs
  generalize hL : left s k now = n at *
  generalize hC : clock s now = cl at *
  have HC := Lib.hid hck
  have HO := Lib.hid hs
  have HW := Lib.hid hw
  have HZ := Lib.hid hf
  obtain ⟨hl1, hl2⟩ := hlb
  have hf2 := hs.full2
  have HCL := Lib.hid hcl
  have H0 := Lib.hid HLF
  clear hw hs hfin hroom htl hck hL hC hf hcl HLF
  go_enter Try.func11, Try.ntmps11
  go_wp2_with (first | (go_at_call 23; refine (none_no b s.rate _ hr1 c2).mono ?_; rintro e w' ⟨rfl, rfl⟩) | fail)
  refine H0.out.mono ?_
  rintro e w1 ⟨rfl, hb1⟩
  have hw1 := HW.out.below hb1
  obtain ⟨d0, d1, d2, d3, d4, d5, dr, dlt⟩ := cells6 hw1.1
  have HB1 := Lib.hid hb1
  have HW1 := Lib.hid hw1
  clear hb1 hw1
  have hlk : (Instr.lookup 51 (.map (some m)) (.string k) true).run Try.prog (w1.setCell ⟨b, 5, none⟩ (.int .i64 cl)) = .ok (.tuple #[.agg #[.int .i64 0, .int .i64 0], .bool false]) (w1.setCell ⟨b, 5, none⟩ (.int .i64 cl)) := by
    have h := (HW1.out.tick cl).2.1.lookup Try.underlying51 Try.underlying9 k (zero61 (w1.setCell ⟨b, 5, none⟩ (.int .i64 cl)))
    have hl : look s.l k = none := by simp [look, HZ.out]
    dsimp only at h
    rw [hl] at h
    exact h
  have HLK := Lib.hid hlk
  clear hlk
  go_wp2_with (first | (go_at_call 24; refine (clock_any b s.now now _ d5).mono ?_; rintro e w' ⟨rfl, rfl⟩; rw [← HC.out]) | (at_lookup; refine wpList_lookup_str _ rfl _ _ 51 rfl _ m k rfl rfl HLK.out ?_))
  obtain ⟨sa, sc, hsv⟩ := ownsRow_shape HW.out.2.2
  subst hsv
  have hbq : ((s.l.length : Int) == s.keys) = true := by simp; exact hne
  clear hne
  have x1 : ∀ n, (((w1.setCell ⟨b, 5, none⟩ (.int .i64 cl)).alloc (.cells #[.int .i64 0, .int .i64 0] 61)).drewN n).cell? ⟨b, 1, none⟩ = some (.slice sa s.l.length sc) := fun n => (cells6 ((HW1.out.tick cl).alloc (.cells #[.int .i64 0, .int .i64 0] 61)).1).2.1
  have x4 : ∀ n, (((w1.setCell ⟨b, 5, none⟩ (.int .i64 cl)).alloc (.cells #[.int .i64 0, .int .i64 0] 61)).drewN n).cell? ⟨b, 4, none⟩ = some (.int .i64 s.keys) := fun n => (cells6 ((HW1.out.tick cl).alloc (.cells #[.int .i64 0, .int .i64 0] 61)).1).2.2.2.2.1
  go_quiet (fail)
  clear x1 x4 hbq
  have hw3 := ((HW1.out.tick cl).alloc (.cells #[.int .i64 0, .int .i64 0] 61)).drewN nq
  have hf3 : Foot w (((w1.setCell ⟨b, 5, none⟩ (.int .i64 cl)).alloc (.cells #[.int .i64 0, .int .i64 0] 61)).drewN nq) (feet b m (.slice sa s.l.length sc)) :=
    Foot.drewN (Foot.alloc (Foot.setCell (Foot.ofBelow HB1.out _) (.inr (.inl rfl)) _) _) _
  generalize (((w1.setCell ⟨b, 5, none⟩ (.int .i64 cl)).alloc (.cells #[.int .i64 0, .int .i64 0] 61)).drewN nq) = w3 at hw3 hf3 ⊢
  obtain ⟨g, hsa, hcell⟩ : ∃ g, sa = some ⟨g, 0, none⟩ ∧ w3.cell? ⟨g, 0, none⟩ = some (.string e0.1) := by
    rcases hw3.2.2.2 with ⟨_, h0⟩ | ⟨g, cap, cur, hsv, _, hg, _, _, hsz, htake⟩
    · dsimp only at h0; omega
    · cases hsv
      refine ⟨g, rfl, ?_⟩
      have h1 : (cur.toList.take (s.l.length * 1))[0]? = some (.string e0.1) := by
        dsimp only at htake; rw [htake, HT.out.1]; rfl
      rw [List.getElem?_take_of_lt (by omega)] at h1
      simp only [World.cell?, hg]
      simpa using h1
  subst hsa
  obtain ⟨e0', e1, e2, e3, e4, e5, er, elt⟩ := cells6 hw3.1
  dsimp only at e0' e1 e2 e3 e4 e5
  have hok3 := HO.out.tick (t := cl) HCL.out.2.1 HCL.out.2.2
  have HO3 := Lib.hid hok3
  have HW3 := Lib.hid hw3
  have HF3 := Lib.hid hf3
  clear hw3 hf3 HB1 HW1 d0 d1 d2 d3 d4 d5 dr dlt HLK hok3
  go_wp2
  go_still_tail 10, (by kernel_rfl)
  change wpList _ _ _ _ _ w3.drew
  go_wp2_with fail
  refine (drop_any b m _ { s with now := cl } e0.1 w3.drew HW3.out HO3.out).mono ?_
  rintro e w4 ⟨rfl, sv4, hw4, hf4, ho4⟩
  have hok4 := HO3.out.sub (drop_sub s.l e0.1)
  dsimp only at hw4
  rw [HT.out.2.1] at hw4 hok4
  obtain ⟨f0, f1, f2, f3, f4, f5, fr, flt⟩ := cells6 hw4.1
  dsimp only at f0 f1 f2 f3 f4 f5
  have HW4 := Lib.hid hw4
  have HF4 := Lib.hid hf4
  have HO4 := Lib.hid hok4
  have HS4 := Lib.hid ho4
  clear hw4 hf4 hok4 ho4
  have hwr : IntKind.i64.wrap (n - 1) = n - 1 := by rw [IntKind.wrap_i64]; omega
  have hmx : (if n - 1 < 0 then 0 else n - 1) = max (n - 1) 0 := by split <;> omega
  go_wp2
  go_still_tail 12, (by kernel_rfl)
  clear hmx hwr
  change wpList _ _ _ _ _ w4.drew
  go_wp2_with (go_at_call 26; refine (touch_any b m _ { s with l := tl, now := cl } k _ cl w4.drew HW4.out HO4.out).mono ?_; rintro e w5 ⟨rfl, sv5, hw5, hf5, ho5⟩; have H5 := Lib.hid (And.intro hw5 (And.intro hf5 ho5)); clear hw5 hf5 ho5)
  go_ret
  obtain ⟨hw5, hf5, ho5⟩ := H5.out
  have hff : Foot w w4 (feet b m (.slice (some ⟨g, 0, none⟩) s.l.length sc)) := HF3.out.trans (Foot.trans (Foot.drew (Foot.refl w3 _)) HF4.out (fun _ _ h => h)) (fun _ _ h => h)
  refine ⟨by simp, sv5, ?_, ?_, ?_⟩
  · rw [HR.out]; exact hw5
  · refine hff.trans (Foot.trans (Foot.drew (Foot.refl w4 (feet b m sv4))) hf5 (fun _ _ h => h)) (fun q _ h => ?_)
    rcases h with h | h | h
    · exact .inl h
    · exact .inr (.inl h)
    · exact .inr (.inr (by rw [← HS4.out]; exact h))
  · rcases ho5 with ho5 | ⟨g', hg1, hg2⟩
    · exact .inl (ho5.trans HS4.out)
    · exact .inr ⟨g', hg1, Nat.le_trans hff.size hg2⟩

/-- Allow, whatever there is -/
theorem allow_any (b m : Nat) (sv : Value) (s : LS) (k : ByteArray) (now : Int) (w : World) (hw : LimW w b m sv s) (hs : Ok s) :
    Calls Try.prog 11 #[.pointer (some ⟨b, 0, none⟩), .string k, .int .i64 now] w fun e w' => e = .returned (.bool (decide (0 < left s k now))) ∧ ∃ sv', LimW w' b m sv' (allow s k now) ∧ Foot w w' (feet b m sv) ∧ (sv'.ownBlock = sv.ownBlock ∨ ∃ g, sv'.ownBlock = some g ∧ w.heap.size ≤ g) := by
  cases hf : find s.l k with
  | some z => exact allow_there b m sv s k now w hw hs z hf
  | none =>
    by_cases hne : (s.l.length : Int) = s.keys
    · exact allow_full b m sv s k now w hw hs hf hne
    · exact allow_room b m sv s k now w hw hs hf hne

theorem keys_any (b m : Nat) (sv : Value) (s : LS) (w : World) (hw : LimW w b m sv s) (hs : Ok s) :
    Calls Try.prog 22 #[.pointer (some ⟨b, 0, none⟩)] w fun e w' => e = .returned (.int .i64 s.l.length) ∧ w = w' := by
  have hr1 := hs.rate1
  obtain ⟨c0, c1, c2, c3, c4, c5, cr, lt⟩ := cells6 hw.1
  obtain ⟨sa, sc, hsv⟩ := ownsRow_shape hw.2.2
  subst hsv
  clear hw hs
  go_enter Try.func22, Try.ntmps22
  go_wp2_with (go_at_call 23; refine (none_no b s.rate _ hr1 c2).mono ?_; rintro e w' ⟨rfl, rfl⟩)
  go_ret
  exact ⟨rfl, rfl⟩

def mk (rate burst keys : Int) : LS := { l := [], rate := rate, full := rate + burst, keys := keys, now := 0 }

def okArgs (rate burst keys : Int) : Prop := 1 ≤ rate ∧ rate ≤ 1000000 ∧ 0 ≤ burst ∧ burst ≤ 1000000 ∧ 1 ≤ keys ∧ keys ≤ 1000

theorem mk_ok {rate burst keys : Int} (h : okArgs rate burst keys) : Ok (mk rate burst keys) := by
  obtain ⟨h1, h2, h3, h4, h5, h6⟩ := h
  exact ⟨h1, h2, by simp [mk]; omega, by simp [mk]; omega, h5, h6, by simp [mk], by simp [mk, last], by simp [mk], by simp [mk]; omega, by simp [mk]⟩

theorem new_yes (rate burst keys : Int) (w : World) (h : okArgs rate burst keys) :
    Calls Try.prog 8 #[.int .i64 rate, .int .i64 burst, .int .i64 keys] w fun e w' => e = .returned (.tuple #[.pointer (some ⟨w.heap.size + 1, 0, none⟩), .int .i64 0]) ∧ LimW w' (w.heap.size + 1) w.heap.size (.slice none 0 0) (mk rate burst keys) ∧ Below w.heap.size w w' := by
  obtain ⟨h1, h2, h3, h4, h5, h6⟩ := h
  have hmm := @run_makeMap Try.prog
  go_enter Try.func8, Try.ntmps8
  go_wp2
  go_ret2
  refine ⟨by simp, ⟨?_, ?_, World.ownsRow_nil _ 0 9 1⟩, ?_⟩
  · have h := heap_alloc_new (w.alloc (.map #[] 0)) (.cells #[.map (some w.heap.size), .slice none 0 0, .int .i64 rate, .int .i64 (rate + burst), .int .i64 keys, .int .i64 0] 56)
    simp only [World.size_alloc] at h
    exact h
  · refine (StrMap.made w).keep (Below.heap_alloc _ _ _ (by simp))
  · exact ((Below.refl _ _).alloc (Nat.le_refl _) _).alloc (by simp) _

theorem new_no (rate burst keys : Int) (w : World) (h : ¬ okArgs rate burst keys) :
    Calls Try.prog 8 #[.int .i64 rate, .int .i64 burst, .int .i64 keys] w fun e w' => e = .returned (.tuple #[.pointer none, .int .i64 1]) ∧ w = w' := by
  have hd : rate < 1 ∨ ¬ rate < 1 ∧ (1000000 < rate ∨ ¬ 1000000 < rate ∧ (burst < 0 ∨ ¬ burst < 0 ∧ (1000000 < burst ∨ ¬ 1000000 < burst ∧ (keys < 1 ∨ ¬ keys < 1 ∧ 1000 < keys)))) := by
    unfold okArgs at h; omega
  clear h
  rcases hd with h1 | ⟨h1, h2 | ⟨h2, h3 | ⟨h3, h4 | ⟨h4, h5 | ⟨h5, h6⟩⟩⟩⟩⟩
  all_goals
    go_enter Try.func8, Try.ntmps8
    go_wp2
    go_ret2
    exact ⟨rfl, rfl⟩
end Go.Proofs.Ytmdallmbmjcdfaa.Lm
