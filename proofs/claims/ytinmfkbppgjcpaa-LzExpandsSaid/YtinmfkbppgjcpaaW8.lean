/- LzExpands answers true. -/
import Derived.Test.YtinmfkbppgjcpaaRex
import Derived.Test.YtinmfkbppgjcpaaW9
import Derived.StillTailTactics
set_option linter.unusedVariables false
namespace Go.Proofs.Ytinmfkbppgjcpaa.Lz
open Go.RowKit LzP

/-- the cells of pieces that came in -/
def pcv (l : List (Int × Int × Int)) : List Value := l.flatMap fun p => [.int .i64 p.1, .int .i64 p.2.1, .int .u8 p.2.2]
theorem pcv_length (l : List (Int × Int × Int)) : (pcv l).length = l.length * 3 := by
  induction l with
  | nil => rfl
  | cons x l ih => simp only [pcv, List.flatMap_cons, List.length_append, List.length_cons, List.length_nil] at *; omega
theorem pcv_append (l r : List (Int × Int × Int)) : pcv (l ++ r) = pcv l ++ pcv r := by simp [pcv]
theorem pcv_get (l : List (Int × Int × Int)) (i : Nat) (p : Int × Int × Int) (h : l[i]? = some p) : (pcv l)[i * 3]? = some (.int .i64 p.1) ∧ (pcv l)[i * 3 + 1]? = some (.int .i64 p.2.1) ∧ (pcv l)[i * 3 + 2]? = some (.int .u8 p.2.2) := by
  induction l generalizing i with
  | nil => simp at h
  | cons x l ih =>
    cases i with
    | zero => simp at h; subst h; exact ⟨rfl, rfl, rfl⟩
    | succ i =>
      obtain ⟨h1, h2, h3⟩ := ih i (by simpa using h)
      have e : pcv (x :: l) = [.int .i64 x.1, .int .i64 x.2.1, .int .u8 x.2.2] ++ pcv l := by simp [pcv]
      rw [e]
      refine ⟨?_, ?_, ?_⟩
      · rw [List.getElem?_append_right (by simp; omega)]; simpa [show (i + 1) * 3 - 3 = i * 3 by omega] using h1
      · rw [List.getElem?_append_right (by simp; omega)]; simpa [show (i + 1) * 3 + 1 - 3 = i * 3 + 1 by omega] using h2
      · rw [List.getElem?_append_right (by simp; omega)]; simpa [show (i + 1) * 3 + 2 - 3 = i * 3 + 2 by omega] using h3

theorem own_pcv {w : World} {base : Nat} {T : TypeId} {va : Option Addr} {c : Nat} {L : List (Int × Int × Int)} (h : w.ownsRow base T 3 (.slice va L.length c) L.length (pcv L)) : PcsAt w va L := by
  rcases h.2 with ⟨e, h0⟩ | ⟨gb, c', cur, e, _, hg, hc, hm, _⟩
  · have : L = [] := List.length_eq_zero_iff.1 h0
    subst this
    exact pcs_nil _ _
  · cases e
    intro i p hp
    obtain ⟨h1, h2, h3⟩ := pcv_get L i p hp
    refine ⟨gb, 0, rfl, (Array.getElem?_eq_some_iff.1 hg).1, ?_, ?_, ?_⟩
    · rw [Nat.zero_add]; exact own_cell h h1
    · rw [Nat.zero_add]; exact own_cell h h2
    · rw [Nat.zero_add]; exact own_cell h h3

/-- the text of a slice that the call has made -/
theorem conv_own {w : World} {base : Nat} {sv : Value} {l : List Int} (h : w.ownsRow base 5 1 sv l.length (u8s l)) : (convert 22 9 sv).run Try.prog w = .ok (.string (strOfNums l)) w := by
  have htx : txt (fun i => l.getD i 0) l.length = l := by
    apply List.ext_getElem
    · simp [txt]
    · intro i h1 h2; simp [txt, List.getD, h2]
  obtain ⟨va, vc, rfl⟩ := own_shape h
  have ht : Txt w va l.length (fun i => l.getD i 0) := by
    rcases h.2 with ⟨e, h0⟩ | ⟨gq, cq, cur, e, _⟩
    · intro i hi; omega
    · cases e
      refine own_txt (base := base) (c := vc) ?_
      show w.ownsRow base 5 1 _ _ ((txt _ _).map _)
      rw [htx]; exact h
  have := conv_txt ht vc 0
  rw [htx] at this
  exact this

theorem expand_bad (f : FuncId) (hf : f = 25 ∨ f = 26) (a : Option Addr) (n cap : Nat) (most : Int) (w : World) (h : most < 0 ∨ 1048576 < most) :
    Calls Try.prog f #[.slice a n cap, .int .i64 most] w (GotB w ([], 1)) := by
  rcases hf with rfl | rfl
  · by_cases h1 : most < 0
    · go_enter Try.func25, Try.ntmps25
      go_wp2
      go_ret2
      exact GotB.err rfl (Below.refl _ _)
    · have h2 : 1048576 < most := by omega
      clear h
      go_enter Try.func25, Try.ntmps25
      go_wp2
      go_ret2
      exact GotB.err rfl (Below.refl _ _)
  · by_cases h1 : most < 0
    · go_enter Try.func26, Try.ntmps26
      go_wp2
      go_ret2
      exact GotB.err rfl (Below.refl _ _)
    · have h2 : 1048576 < most := by omega
      clear h
      go_enter Try.func26, Try.ntmps26
      go_wp2
      go_ret2
      exact GotB.err rfl (Below.refl _ _)

theorem new3' (w : World) (t : TypeId) (v0 v1 v2 : Value) : ∀ j u, [v0, v1, v2][j]? = some u → (w.alloc (.cells #[v0, v1, v2] t)).drew.cell? ((⟨w.heap.size, 0, none⟩ : Addr).add j) = some u := by
  intro j u hj
  have h := heap_alloc_new w (.cells #[v0, v1, v2] t)
  rw [add_lit, Nat.zero_add]
  show (w.alloc _).cell? _ = _
  simp only [World.cell?, h]
  simpa using hj

/-- what both expand to -/
def exAll (most : Int) (l : List (Int × Int × Int)) : List Int × Int := if most < 0 ∨ 1048576 < most then ([], 1) else ex most.toNat l []

theorem expand_both (f : FuncId) (hf : f = 25 ∨ f = 26) (a : Option Addr) (n cap : Nat) (l : List (Int × Int × Int)) (most : Int) (w : World) (hp : PcsAt w a l) (hl : l.length = n) (hn : n ≤ maxLen) :
    Calls Try.prog f #[.slice a n cap, .int .i64 most] w (GotB w (exAll most l)) := by
  unfold exAll
  by_cases h : most < 0 ∨ 1048576 < most
  · rw [if_pos h]; exact expand_bad f hf a n cap most w h
  · rw [if_neg h]
    obtain ⟨m, rfl⟩ : ∃ m : Nat, most = m := ⟨most.toNat, by omega⟩
    rw [Int.toNat_natCast]
    rcases hf with rfl | rfl
    · exact expand_any a n cap l m w hp hl hn (by omega)
    · exact ref_expand a n cap l m w hp hl hn (by omega)

theorem ex_code (most : Nat) : ∀ l out, (ex most l out).2 = 0 ∨ (ex most l out).2 = 6 ∨ (ex most l out).2 = 31
  | [], out => .inl rfl
  | p :: r, out => by
    unfold ex
    split
    · split
      · exact .inr (.inl rfl)
      · exact ex_code most r _
    · split
      · split
        · exact .inr (.inl rfl)
        · exact ex_code most r _
      · exact .inr (.inr rfl)

set_option maxHeartbeats 2000000 in
set_option maxRecDepth 100000 in
theorem walk8 (a : Option Addr) (n cap : Nat) (l : List (Int × Int × Int)) (most : Int) (w : World) (hp : PcsAt w a l) (hl : l.length = n) (hn : n * 24 ≤ 140737488351232) :
    Calls Try.prog 8 #[.slice a n cap, .int .i64 most] w (IsTrue w) := by
  have HP := Lib.hid hp
  have HL := Lib.hid hl
  obtain ⟨i0, hi, hz0, hz1, hz2⟩ := info_parts info37
  clear hp hl
  go_enter Try.func8, Try.ntmps8
  go_wp2_with fail
  go_loopw [5, 6] (fun v i wr => ∃ k : Nat, k ≤ n ∧ i = .int .i64 k ∧ wr.ownsRow w.heap.size 37 3 v k (pcv (l.take k)) ∧ Below w.heap.size w wr) (fun _ i _ => n - (intOf i).toNat)
  case atStart => exact ⟨0, Nat.zero_le _, rfl, World.ownsRow_nil _ _ _ _, Below.refl _ _⟩
  case round =>
    obtain ⟨k, hk, rfl, hown, hbel⟩ := hrel
    obtain ⟨va, vc, rfl⟩ := own_shape hown
    have HO := Lib.hid hown
    have HB := Lib.hid hbel
    by_cases hlt : k < n
    · obtain ⟨⟨p1, p2, p3⟩, hpk⟩ : ∃ p, l[k]? = some p := ⟨l[k]'(by have := HL.out; omega), List.getElem?_eq_getElem _⟩
      obtain ⟨b, off, rfl, hbl, c0, c1, c2⟩ := (HP.out.below hbel) k _ hpk
      dsimp only at c0 c1 c2
      have HPK := Lib.hid hpk
      have hsz := hbel.size
      clear hown hbel hpk
      go_wp2_with fail
      have hk1 : (k + 1) * 24 ≤ 140737488355328 := by omega
      go_region_law (refine step_append_at rfl (.tmp 17) (.tmp 34) 24 rfl w.heap.size 37 i0 (.agg #[.int .i64 0, .int .i64 0, .int .u8 0]) 3 24 Try.underlying24 hi hz0 hz1 hz2 rfl (by decide) (.slice va k vc) k (pcv (l.take k)) (by simp [Act.eval]) (by exact (HO.out.alloc _).drew) ⟨wr.heap.size, 0, none⟩ 1 1 [.int .i64 p1, .int .i64 p2, .int .u8 p3] (by simp [Act.eval]) rfl (by exact new3' _ _ _ _ _) (one3 _ _ _) (by unfold maxLen; omega) (by omega) (by simp; omega) ?_; intro v' w2 hown2 hgrow hat; have H2 := Lib.hid (And.intro hown2 hgrow); clear hown2 hgrow hat)
      all_goals
        go_wp2
        go_roundw
        case rel =>
          obtain ⟨g1, g2⟩ := H2.out
          refine ⟨k + 1, by omega, by go_num, ?_, ((HB.out.alloc hsz _).drew.grown g2 (by simp; omega) (fun b hb => (HO.out.lt _ hb).1))⟩
          rw [List.take_add_one, HPK.out, pcv_append]
          exact g1
        case measure => simp [intOf]; omega
    · obtain rfl : k = n := by omega
      have htk : l.take k = l := List.take_of_length_le (by have := HL.out; omega)
      rw [htk] at hown
      have hlk := HL.out
      have hx : PcsAt wr va l := own_pcv (by rw [hlk]; exact hown)
      have HX := Lib.hid hx
      have hkm : k ≤ maxLen := by unfold maxLen; omega
      have HKM := Lib.hid hkm
      have hcode : (exAll most l).2 = 0 ∨ (exAll most l).2 = 1 ∨ (exAll most l).2 = 6 ∨ (exAll most l).2 = 31 := by
        unfold exAll
        split
        · exact .inr (.inl rfl)
        · rcases ex_code most.toNat l [] with h | h | h
          · exact .inl h
          · exact .inr (.inr (.inl h))
          · exact .inr (.inr (.inr h))
      have C25 := fun w hp => expand_both 25 (.inl rfl) va k vc l most w hp HL.out hkm
      have C26 := fun w hp => expand_both 26 (.inr rfl) a k cap l most w hp HL.out hkm
      generalize exAll most l = R at C25 C26 hcode
      obtain ⟨out, code⟩ := R
      dsimp only at hcode
      have hcode2 : 0 ≤ code ∧ code ≤ 31 := by omega
      have H25 := Lib.hid C25
      have H26 := Lib.hid C26
      clear hown hbel hx htk hlk C25 C26 HO hcode hkm
      go_wp2_with fail
      refine (H25.out wr HX.out).mono ?_
      rintro e w2 ⟨s1, rfl, ho1, hb2⟩
      dsimp only at ho1
      have HO1 := Lib.hid ho1
      have HX2 := Lib.hid (HX.out.below hb2)
      have HB2 := Lib.hid (HB.out.trans (hb2.mono HB.out.size))
      clear ho1 hb2 HX HB
      go_wp2_with fail
      refine (H26.out w2 (HP.out.below HB2.out)).mono ?_
      rintro e w3 ⟨s2, rfl, ho2, hb3⟩
      dsimp only at ho2
      have v1 := conv_own (row_below HO1.out hb3)
      have v2 := conv_own ho2
      have HX3 := Lib.hid (HX2.out.below hb3)
      have HB3 := Lib.hid (HB2.out.trans (hb3.mono HB2.out.size))
      generalize strOfNums out = S at v1 v2
      clear ho2 hb3 HO1 HX2 HB2 H25 H26
      go_wp2_with fail
      refine (num_any code _ (by omega) (by omega)).mono ?_
      rintro e w4 ⟨rfl, rfl⟩
      go_wp2_with fail
      refine (same_true va a k vc cap l w3 HX3.out (HP.out.below HB3.out) HL.out HKM.out).mono ?_
      rintro e w4 ⟨rfl, q, rfl⟩
      have HB4 : Hid (Below w.heap.size w (w3.drewN q)) := belowN HB3.out
      clear v1 v2
      generalize w3.drewN q = w4 at HB4 ⊢
      go_wp2_with fail
      refine (knows_any _).mono ?_
      rintro e w5 ⟨rfl, hb5⟩
      have HB5 := Lib.hid (HB4.out.trans (hb5.mono HB4.out.size))
      clear hb5
      go_wp2
      go_ret
      exact ⟨rfl, HB5.out⟩
end Go.Proofs.Ytinmfkbppgjcpaa.Lz
