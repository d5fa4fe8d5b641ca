/- The contracts of limits.Limiter, the second half: touch, Allow, Keys, New. -/
import Derived.Test.YtmdallmbmjcdfaaLim
set_option linter.unusedVariables false
namespace Go.Proofs.Ytmdallmbmjcdfaa.Lm
open Go.RowKit

theorem LimW.keep {b m : Nat} {sv : Value} {s : LS} {w w' : World} (h : LimW w b m sv s) (hk : ∀ k, feet b m sv k → k < w.heap.size → w'.heap[k]? = w.heap[k]?) : LimW w' b m sv s := by
  obtain ⟨h1, h2, h3, h4⟩ := h
  refine ⟨(hk b (.inl rfl) (Array.getElem?_eq_some_iff.1 h1).1).trans h1, h2.keep (hk m (.inr (.inl rfl)) h2.lt), h3, ?_⟩
  rcases h4 with h4 | ⟨g, cap, cur, rfl, h5, h6, h7⟩
  · exact .inl h4
  · exact .inr ⟨g, cap, cur, rfl, h5, (hk g (.inr (.inr rfl)) (Array.getElem?_eq_some_iff.1 h6).1).trans h6, h7⟩

theorem LimW.below {b m : Nat} {sv : Value} {s : LS} {w w' : World} (h : LimW w b m sv s) (hb : Below w.heap.size w w') : LimW w' b m sv s := h.keep fun k _ hk => hb.block k hk
theorem LimW.alloc {b m : Nat} {sv : Value} {s : LS} {w : World} (h : LimW w b m sv s) (o : Obj) : LimW (w.alloc o) b m sv s := h.keep fun k _ hk => Below.heap_alloc w o k hk
theorem LimW.drewN {b m : Nat} {sv : Value} {s : LS} {w : World} (h : LimW w b m sv s) (n : Nat) : LimW (w.drewN n) b m sv s := h
theorem LimW.lt {b m : Nat} {sv : Value} {s : LS} {w : World} (h : LimW w b m sv s) : b < w.heap.size := (Array.getElem?_eq_some_iff.1 h.1).1
theorem LimW.feet_lt {b m : Nat} {sv : Value} {s : LS} {w : World} (h : LimW w b m sv s) {k : Nat} (hk : feet b m sv k) : k < w.heap.size := by
  obtain ⟨h1, h2, h3, h4⟩ := h
  rcases hk with rfl | rfl | hk
  · exact (Array.getElem?_eq_some_iff.1 h1).1
  · exact h2.lt
  · rcases h4 with ⟨rfl, _⟩ | ⟨g, cap, cur, rfl, h5, h6, h7⟩
    · cases hk
    · cases hk; exact (Array.getElem?_eq_some_iff.1 h6).1

/-- drop, whatever there is -/
theorem drop_any (b m : Nat) (sv : Value) (s : LS) (k : ByteArray) (w : World) (hw : LimW w b m sv s) (hs : Ok s) :
    Calls Try.prog 25 #[.pointer (some ⟨b, 0, none⟩), .string k] w fun e w' => e = .returned (.tuple #[]) ∧ ∃ sv', LimW w' b m sv' { s with l := drop s.l k } ∧ Foot w w' (feet b m sv) ∧ sv'.ownBlock = sv.ownBlock := by
  by_cases hf : find s.l k = none
  · refine (drop_none_any b m sv s k w hw hf).mono fun e w' ⟨he, hb⟩ => ⟨he, sv, ?_, Foot.ofBelow hb _, rfl⟩
    rw [drop_none hf]
    exact hw.below hb
  · exact drop_some_any b m sv s k w hw hs hf

theorem LimW.apart {b m : Nat} {sv : Value} {s : LS} {w : World} (h : LimW w b m sv s) : b ≠ m ∧ sv.ownBlock ≠ some b ∧ sv.ownBlock ≠ some m := by
  obtain ⟨h1, ⟨es, cl, h2, _⟩, h3, h4⟩ := h
  refine ⟨fun q => ?_, fun q => ?_, fun q => ?_⟩
  · subst q; rw [h1] at h2; cases h2
  · rcases h4 with ⟨rfl, _⟩ | ⟨g, cap, cur, rfl, h5, h6, h7⟩
    · cases q
    · cases q; rw [h1] at h6; cases h6
  · rcases h4 with ⟨rfl, _⟩ | ⟨g, cap, cur, rfl, h5, h6, h7⟩
    · cases q
    · cases q; rw [h2] at h6; cases h6

theorem ownsRow_keep {w w' : World} {base : Nat} {e : TypeId} {size : Nat} {v : Value} {n : Nat} {xs : List Value} (h : w.ownsRow base e size v n xs) (hk : ∀ g, v.ownBlock = some g → g < w.heap.size → w'.heap[g]? = w.heap[g]?) : w'.ownsRow base e size v n xs := by
  obtain ⟨h3, h4⟩ := h
  refine ⟨h3, ?_⟩
  rcases h4 with h4 | ⟨g, cap, cur, rfl, h5, h6, h7⟩
  · exact .inl h4
  · exact .inr ⟨g, cap, cur, rfl, h5, (hk g rfl (Array.getElem?_eq_some_iff.1 h6).1).trans h6, h7⟩

theorem ownsRow_slice {w : World} {base : Nat} {e : TypeId} {size : Nat} {v : Value} {n : Nat} {xs : List Value} (h : w.ownsRow base e size v n xs) : ∃ a l c, v = .slice a l c := by
  rcases h.2 with ⟨rfl, _⟩ | ⟨g, cap, cur, rfl, _⟩ <;> exact ⟨_, _, _, rfl⟩

theorem look_put {s : LS} (hs : Ok s) (k : ByteArray) (p : Int × Int) : look (drop s.l k ++ [(k, p)]) = fun x => if x = k then some (bv p) else look (drop s.l k) x := by
  funext x
  unfold look
  rw [find_append, find_one]
  by_cases h : x = k
  · subst h; simp [find_drop_same hs.apart]
  · rw [if_neg h, if_neg (fun q => h q.symm)]
    simp

/-- the last cells of a block laid behind a limiter's -/
theorem cells_new {w w1 : World} {S : Nat → Prop} {x y : Value} {t : TypeId} (hf : Foot (w.alloc (.cells #[x, y] t)) w1 S) (hS : ¬ S w.heap.size) :
    w1.cell? ⟨w.heap.size, 0, none⟩ = some x ∧ w1.cell? ⟨w.heap.size, 1, none⟩ = some y := by
  have h := (hf.block w.heap.size (by simp) hS).trans (heap_alloc_new w _)
  exact ⟨by simp [World.cell?, h], by simp [World.cell?, h]⟩

theorem touch_close {b m : Nat} {sv sv1 : Value} {s : LS} {k : ByteArray} {n a : Int} {w w1 w2 w3 : World} {o o' : Obj} {va : Option Addr} {vl vc N : Nat} (hs : Ok s) (hw : LimW w b m sv s) (hf1 : Foot (w.alloc o) w1 (feet b m sv)) (ho1 : sv1.ownBlock = sv.ownBlock)
    (hw1 : LimW w1 b m sv1 { s with l := drop s.l k }) (hs2 : StrMap w2 m (fun x => if x = k then some (bv (n, a)) else look (drop s.l k) x)) (hf2 : Foot w1.drew w2 (fun q => q = m))
    (hown : w3.ownsRow 0 9 1 (.slice va vl vc) N ((drop s.l k).map (fun e => .string e.1) ++ [.string k]))
    (hgrow : (w2.alloc o').grownBy w3 sv1.ownBlock) (hat : (Value.slice va vl vc).ownBlock = sv1.ownBlock ∨ (Value.slice va vl vc).ownBlock = some (w2.alloc o').heap.size)
    (hb3 : w3.heap[b]? = some (.cells #[.map (some m), sv1, .int .i64 s.rate, .int .i64 s.full, .int .i64 s.keys, .int .i64 s.now] 56 (0, 0))) (hN : N = (drop s.l k).length + 1 := by rfl) :
    ∃ sv', LimW (w3.setCell ⟨b, 1, none⟩ (.slice va vl vc)) b m sv' { s with l := drop s.l k ++ [(k, n, a)] } ∧ Foot w (w3.setCell ⟨b, 1, none⟩ (.slice va vl vc)) (feet b m sv) ∧ (sv'.ownBlock = sv.ownBlock ∨ ∃ g, sv'.ownBlock = some g ∧ w.heap.size ≤ g) := by
  subst hN
  obtain ⟨q1, q2, q3⟩ := hw1.apart
  have hsz1 := hf1.size
  have hsz2 := hf2.size
  have hlm := hs2.lt
  simp at hsz1
  have hsz2' : w1.heap.size ≤ w2.heap.size := hsz2
  have hm3 := (hgrow.block m (by simp; omega) (fun q => q3 q.symm)).trans (Below.heap_alloc w2 o' m hlm)
  have hnew : (Value.slice va vl vc).ownBlock ≠ some b := by
    rcases hat with hat | hat
    · rw [hat]; exact q2
    · rw [hat]; intro q; cases q; have := hw1.lt; simp at this; omega
  refine ⟨.slice va vl vc, ⟨?_, ?_, ?_⟩, ?_, ?_⟩
  · rw [heap_setCell_same (off := 1) hb3]; rfl
  · show StrMap _ m (look (drop s.l k ++ [(k, n, a)]))
    rw [look_put hs]
    exact hs2.keep (by rw [Below.heap_setCell _ _ _ _ (show m ≠ b from q1.symm)]; exact hm3)
  · show World.ownsRow _ 0 9 1 _ (drop s.l k ++ [(k, n, a)]).length ((drop s.l k ++ [(k, n, a)]).map _)
    have e : ((drop s.l k ++ [(k, n, a)]).map fun e => Value.string e.1) = (drop s.l k).map (fun e => .string e.1) ++ [.string k] := by simp
    rw [e, show (drop s.l k ++ [(k, n, a)]).length = (drop s.l k).length + 1 by simp]
    exact ownsRow_keep hown (fun g hg _ => Below.heap_setCell _ _ _ _ (fun q => hnew (by rw [hg, q])))
  · refine Foot.setCell ?_ (.inr (.inl rfl)) _
    refine Foot.grown (w1 := w2.alloc o') ?_ hgrow (fun q hq _ => .inr (.inr (by rw [← ho1]; exact hq)))
    refine Foot.alloc ?_ _
    refine Foot.trans (w1 := w1) ?_ (Foot.trans (Foot.drew (Foot.refl w1 (fun q => q = m))) hf2 (fun _ _ h => h)) (fun q _ h => .inr (.inl h))
    exact Foot.trans (Foot.alloc (Foot.refl w _) o) hf1 (fun q _ h => h)
  · rcases hat with hat | hat
    · exact .inl (hat.trans ho1)
    · exact .inr ⟨_, hat, by simp; omega⟩

set_option maxHeartbeats 1600000 in
set_option maxRecDepth 100000 in
theorem touch_any (b m : Nat) (sv : Value) (s : LS) (k : ByteArray) (n a : Int) (w : World) (hw : LimW w b m sv s) (hs : Ok s) :
    Calls Try.prog 26 #[.pointer (some ⟨b, 0, none⟩), .string k, .agg #[.int .i64 n, .int .i64 a]] w fun e w' => e = .returned (.tuple #[]) ∧ ∃ sv', LimW w' b m sv' { s with l := drop s.l k ++ [(k, n, a)] } ∧ Foot w w' (feet b m sv) ∧ (sv'.ownBlock = sv.ownBlock ∨ ∃ g, sv'.ownBlock = some g ∧ w.heap.size ≤ g) := by
  have lt := hw.lt
  have hwa := hw.alloc (.cells #[.int .i64 n, .int .i64 a] 61)
  have HS := Lib.hid hs
  have HW := Lib.hid hwa
  have HW0 := Lib.hid hw
  clear hs hwa hw
  obtain ⟨i0, hi, hz0, hz1, hz2⟩ := info_parts info9
  go_enter Try.func26, Try.ntmps26
  go_wp2_with fail
  refine (drop_any b m sv s k _ HW.out HS.out).mono ?_
  rintro e w1 ⟨rfl, sv1, hw1, hf1, ho1⟩
  obtain ⟨d0, d1, d2, d3, d4, d5, dr, dlt⟩ := cells6 hw1.1
  obtain ⟨hx0, hx1⟩ := cells_new hf1 (fun q => by have := HW0.out.feet_lt q; omega)
  have HW1 := Lib.hid hw1
  have HF1 := Lib.hid hf1
  have HO1 := Lib.hid ho1
  clear hw1 hf1 ho1
  go_wp2
  go_still_tail 6, (by kernel_rfl)
  refine wpList_mapUpdate_str w1.drew rfl _ _ _ 51 rfl 9 61 m k (bv (n, a)) (look (drop s.l k)) rfl rfl rfl HW1.out.2.1 Try.underlying51 Try.underlying9 ?_
  intro w2 hs2 hf2
  obtain ⟨q1, q2, q3⟩ := HW1.out.apart
  have hb2 := (hf2.block b HW1.out.lt q1).trans HW1.out.1
  have hr2 : w2.ownsRow 0 9 1 sv1 (drop s.l k).length ((drop s.l k).map fun e => .string e.1) := ownsRow_keep HW1.out.2.2 (fun g hg hlt => hf2.block g hlt (fun q => q3 (by rw [hg, q])))
  obtain ⟨e0, e1, e2, e3, e4, e5, er, elt⟩ := cells6 hb2
  have HS2 := Lib.hid hs2
  have HF2 := Lib.hid hf2
  have HB2 := Lib.hid hb2
  have HR2 := Lib.hid hr2
  clear hs2 hf2 hb2 hr2 q1 q2 q3
  have hlen : (drop s.l k).length ≤ 1000 := by
    have h1 := (drop_sub s.l k).length_le
    have h2 := HS.out.count
    have h3 := HS.out.keys2
    omega
  go_wp2_with (at_builtin; refine wpList_append_own_at _ rfl _ _ 52 rfl 0 9 i0 (.string .empty) 1 16 Try.underlying52 hi hz0 hz1 hz2 rfl (by decide) _ _ _ rfl (HR2.out.alloc _) ⟨w2.heap.size, 0, none⟩ 1 1 [.string k] rfl rfl ?c1 ?c2 ?c3 ?c4 ?c5 ?_)
  case c2 => simp [Value.oneCell']
  case c3 => unfold maxLen; omega
  case c4 => omega
  intro v' w3 hown' hgrow hnil hat
  obtain ⟨va, vl, vc, hv⟩ := ownsRow_slice hown'
  subst hv
  obtain ⟨q1, q2, q3⟩ := HW1.out.apart
  have hb3 := (hgrow.block b (by simp; omega) (fun q => q2 q.symm)).trans ((Below.heap_alloc w2 _ b elt).trans HB2.out)
  obtain ⟨g0, g1, g2, g3, g4, g5, gr, glt⟩ := cells6 hb3
  have H3 := Lib.hid (And.intro hown' (And.intro hgrow (And.intro hat hb3)))
  clear hown' hgrow hat hb3 q1 q2 q3 hnil
  go_wp2
  go_end0
  refine ⟨rfl, ?_⟩
  obtain ⟨hown', hgrow, hat, hb3⟩ := H3.out
  exact touch_close HS.out HW0.out HF1.out HO1.out HW1.out HS2.out HF2.out hown' hgrow (by simpa using hat) hb3
end Go.Proofs.Ytmdallmbmjcdfaa.Lm
