/- The contracts of Lent and Stays. -/
import Derived.Test.YtinmfkbppgjcpaaSame
import Derived.Laws.AppendOwnNone
import Derived.Laws.BytesArg
set_option linter.unusedVariables false
namespace Go.Proofs.Ytinmfkbppgjcpaa.Lz
open Go.RowKit LzP

theorem info5 : (Try.prog.info? 5).map (fun i => (i.zero, i.size, i.bytes)) = some (some (.int .u8 0), 1, 1) := by kernel_rfl

theorem own_empty {w : World} {g : Nat} {base : Nat} {e : TypeId} {size : Nat} (hg : w.heap[g]? = some (.cells #[] e (0, 0))) (hb : base ≤ g) : w.ownsRow base e size (.slice (some ⟨g, 0, none⟩) 0 0) 0 [] :=
  ⟨by simp, .inr ⟨g, 0, #[], rfl, hb, hg, Nat.le_refl _, Nat.zero_le _, by simp, by simp⟩⟩

/-- bytes as values -/
def bytv (g : Nat → Int) (n : Nat) : List Value := (txt g n).map (Value.int .u8)
theorem bytv_length (g : Nat → Int) (n : Nat) : (bytv g n).length = n := by simp [bytv, txt_length]
theorem bytv_get (g : Nat → Int) (n i : Nat) (h : i < n) : (bytv g n)[i]? = some (.int .u8 (g i)) := by simp [bytv, txt, h]
theorem bytv_one (g : Nat → Int) (n : Nat) : ∀ u ∈ bytv g n, u.oneCell' = true := by
  intro u hu; simp [bytv] at hu; obtain ⟨x, _, rfl⟩ := hu; rfl

theorem add_lit (b off j : Nat) : (⟨b, off, none⟩ : Addr).add j = ⟨b, off + j, none⟩ := by
  unfold Addr.add; split
  · subst j; rfl
  · simp

/-- a copy with two bytes behind -/
def LentAt (w : World) (base gb c n : Nat) (g : Nat → Int) : Prop := w.ownsRow base 5 1 (.slice (some ⟨gb, 0, none⟩) (n + 2) c) (n + 2) (bytv g n ++ [.int .u8 201, .int .u8 202])

def LentE (w : World) (n : Nat) (g : Nat → Int) (e : Ending) (w' : World) : Prop :=
  ∃ gb c, e = .returned (.slice (some ⟨gb, 0, none⟩) n c) ∧ LentAt w' w.heap.size gb c n g ∧ Below w.heap.size w w'

theorem own_some {w : World} {base : Nat} {e : TypeId} {size m : Nat} {v : Value} {xs : List Value} (h : w.ownsRow base e size v m xs) (hm : 0 < m) : ∃ gb c, v = .slice (some ⟨gb, 0, none⟩) m c ∧ m ≤ c ∧ c ≤ maxLen ∧ base ≤ gb ∧ gb < w.heap.size := by
  rcases h.2 with ⟨_, h0⟩ | ⟨g, c, cur, e1, hb, hg, h1, h2, _⟩
  · omega
  · exact ⟨g, c, e1, h1, h2, hb, (Array.getElem?_eq_some_iff.1 hg).1⟩
theorem own_cell {w : World} {base : Nat} {e : TypeId} {size m c gb : Nat} {xs : List Value} (h : w.ownsRow base e size (.slice (some ⟨gb, 0, none⟩) m c) m xs) {j : Nat} {u : Value} (hj : xs[j]? = some u) : w.cell? ⟨gb, j, none⟩ = some u := by
  have := h.cells (g := gb) rfl j u hj
  rwa [add_lit, Nat.zero_add] at this

theorem txt_new {w : World} {ad : Addr} {n : Nat} {g : Nat → Int} (h : Txt w (some ad) n g) (o : Obj) : ∀ j u, (bytv g n)[j]? = some u → (w.alloc o).cell? (ad.add j) = some u := by
  intro j u hj
  have hl : j < n := by have := (List.getElem?_eq_some_iff.1 hj).1; rwa [bytv_length] at this
  rw [bytv_get g n j hl] at hj
  cases hj
  obtain ⟨b, off, e, hb, hc⟩ := h j hl
  cases e
  rw [add_lit]
  exact cell_alloc hc o

theorem two_new (w : World) (t : TypeId) (v0 v1 : Value) : ∀ j u, [v0, v1][j]? = some u → (w.alloc (.cells #[v0, v1] t)).cell? ((⟨w.heap.size, 0, none⟩ : Addr).add j) = some u := by
  intro j u hj
  have h := heap_alloc_new w (.cells #[v0, v1] t)
  rw [add_lit, Nat.zero_add]
  simp only [World.cell?, h]
  simpa using hj

theorem two_one : ∀ u ∈ [Value.int .u8 201, .int .u8 202], u.oneCell' = true := by
  intro u hu; simp at hu; rcases hu with rfl | rfl <;> rfl

set_option maxHeartbeats 1000000 in
theorem lent_any (a : Option Addr) (n cap : Nat) (g : Nat → Int) (w : World) (ht : Txt w a n g) (hnil : a = none → n = 0 ∧ cap = 0) (hn : n ≤ 140737488351232) :
    Calls Try.prog 10 #[.slice a n cap] w (LentE w n g) := by
  obtain ⟨i0, hi, hz0, hz1, hz2⟩ := info_parts info5
  have HT := Lib.hid ht
  clear ht
  cases a with
  | none =>
    obtain ⟨rfl, rfl⟩ := hnil rfl
    clear hnil
    go_enter Try.func10, Try.ntmps10
    go_wp2_with (first | (at_builtin; refine wpList_append_own_none rfl (.tmp 4) (.tmp 5) 22 rfl w.heap.size 5 i0 1 Try.underlying22 hi (.slice (some ⟨w.heap.size, 0, none⟩) 0 0) 0 [] rfl (own_empty (heap_alloc_new _ _) (Nat.le_refl _)) rfl ?_) | (at_builtin; refine wpList_append_own_at _ rfl (.tmp 7) (.tmp 8) 22 rfl w.heap.size 5 i0 (.int .u8 0) 1 1 Try.underlying22 hi hz0 hz1 hz2 rfl (by decide) (.slice (some ⟨w.heap.size, 0, none⟩) 0 0) 0 [] rfl (World.ownsRow.alloc (own_empty (heap_alloc_new _ _) (Nat.le_refl _)) _) ⟨w.heap.size + 1, 0, none⟩ 2 2 [.int .u8 201, .int .u8 202] rfl rfl ?c1 two_one ?c3 ?c4 ?c5 ?_))
    case c1 =>
      have := two_new (w.alloc (.cells #[] 5)) 5 (.int .u8 201) (.int .u8 202)
      rwa [World.size_alloc] at this
    case c3 => unfold maxLen; omega
    case c4 => omega
    case c5 => simp; omega
    intro v2 w2 hown2 hgrow2 _ hat2
    obtain ⟨gb, c2, rfl, h1, h2, h3, h4⟩ := own_some hown2 (by omega)
    have HO := Lib.hid hown2
    have HB : Hid (Below w.heap.size w w2) := Lib.hid ((((Below.refl _ w).alloc (Nat.le_refl _) _).alloc (by simp) _).grown hgrow2 (by simp; omega) (fun k hk => by cases hk; exact Nat.le_refl _))
    clear hown2 hgrow2 hat2
    unfold maxLen at h2
    go_wp2
    go_ret
    exact ⟨gb, c2, rfl, by simpa [LentAt, bytv, txt] using HO.out, HB.out⟩
  | some ad =>
    clear hnil
    go_enter Try.func10, Try.ntmps10
    go_wp2_with (at_builtin; refine wpList_append_own_at _ rfl (.tmp 4) (.tmp 5) 22 rfl w.heap.size 5 i0 (.int .u8 0) 1 1 Try.underlying22 hi hz0 hz1 hz2 rfl (by decide) (.slice (some ⟨w.heap.size, 0, none⟩) 0 0) 0 [] rfl (own_empty (heap_alloc_new _ _) (Nat.le_refl _)) ad n cap (bytv g n) rfl ?c0 ?c1 (bytv_one _ _) ?c3 ?c4 ?c5 ?_)
    case c0 => rw [bytv_length]; omega
    case c1 => exact txt_new HT.out _
    case c3 => unfold maxLen; omega
    case c4 => omega
    case c5 => simp
    intro v1 w1 hown1 hgrow1 _ hat1
    have HO1 := Lib.hid hown1
    have HB1 : Hid (Below w.heap.size w w1) := Lib.hid (((Below.refl _ w).alloc (Nat.le_refl _) _).grown hgrow1 (by simp) (fun k hk => by cases hk; exact Nat.le_refl _))
    clear hown1 hgrow1 hat1
    go_wp2_with (at_builtin; refine wpList_append_own_at _ rfl (.tmp 7) (.tmp 8) 22 rfl w.heap.size 5 i0 (.int .u8 0) 1 1 Try.underlying22 hi hz0 hz1 hz2 rfl (by decide) v1 n (bytv g n) rfl (HO1.out.alloc _) ⟨w1.heap.size, 0, none⟩ 2 2 [.int .u8 201, .int .u8 202] rfl rfl ?c1 two_one ?c3 ?c4 ?c5 ?_)
    case c1 => exact two_new w1 _ _ _
    case c3 => unfold maxLen; omega
    case c4 => omega
    case c5 => have := HB1.out.size; simp; omega
    intro v2 w2 hown2 hgrow2 _ hat2
    obtain ⟨gb, c2, rfl, h1, h2, h3, h4⟩ := own_some hown2 (by omega)
    have HO := Lib.hid hown2
    have HB : Hid (Below w.heap.size w w2) := Lib.hid ((HB1.out.alloc HB1.out.size _).grown hgrow2 (by have := HB1.out.size; simp; omega) (fun k hk => (HO1.out.lt _ hk).1))
    clear hown2 hgrow2 hat2
    unfold maxLen at h2
    have h5 : n ≤ c2 := by omega
    go_wp2
    go_ret
    exact ⟨gb, c2, rfl, HO.out, HB.out⟩

theorem LentAt.txt {w : World} {base gb c n : Nat} {g : Nat → Int} (h : LentAt w base gb c n g) : Txt w (some ⟨gb, 0, none⟩) n g := fun i hi =>
  ⟨gb, 0, rfl, (h.lt gb rfl).2, by
    rw [Nat.zero_add]
    exact own_cell h (by rw [List.getElem?_append_left (by rw [bytv_length]; exact hi)]; exact bytv_get g n i hi)⟩

/-- string(b) -/
theorem conv_txt {w : World} {a : Option Addr} {n : Nat} {g : Nat → Int} (h : Txt w a n g) (c q : Nat) : (convert 22 9 (.slice a n c)).run Try.prog (w.drewN q) = .ok (.string (strOfNums (txt g n))) (w.drewN q) := by
  rcases Nat.eq_zero_or_pos n with hn | hn
  · subst hn
    rw [run_convert_bytes_string (w.drewN q) 22 9 5 _ 0 c Try.underlying22 Try.underlying5 Try.underlying9]
    cases a <;> simp [Conv.bytesToString, loadCells]
    all_goals rfl
  · obtain ⟨b, off, rfl, hb, hc⟩ := h.pos hn
    exact run_convert_bytes_arg (w.drewN q) 22 5 Try.underlying22 Try.underlying5 b off n c (txt g n) (txt_length g n) (fun i hi => by rw [txt_getD g n i hi]; exact hc i hi) 9 Try.underlying9

set_option maxHeartbeats 1000000 in
set_option maxRecDepth 100000 in
theorem stays_true (a : Option Addr) (n cap gb c base : Nat) (g : Nat → Int) (w : World) (ht : Txt w a n g) (hl : LentAt w base gb c n g) (hn : n ≤ 140737488351232) :
    Calls Try.prog 15 #[.slice (some ⟨gb, 0, none⟩) n c, .slice a n cap] w fun e w' => e = .returned (.bool true) ∧ ∃ q, w' = w.drewN q := by
  obtain ⟨_, _, e, h1, h2, -, -⟩ := own_some hl (by omega)
  cases e
  have k0 : w.cell? ⟨gb, n, none⟩ = some (.int .u8 201) := own_cell hl (by rw [List.getElem?_append_right (by rw [bytv_length]; exact Nat.le_refl _), bytv_length, Nat.sub_self]; rfl)
  have k1 : w.cell? ⟨gb, n + 1, none⟩ = some (.int .u8 202) := own_cell hl (by rw [List.getElem?_append_right (by rw [bytv_length]; omega), bytv_length, show n + 1 - n = 1 by omega]; rfl)
  have s1 := fun q => conv_txt hl.txt c q
  have s2 := fun q => conv_txt ht cap q
  generalize strOfNums (txt g n) = S at s1 s2
  clear ht hl
  unfold maxLen at h2
  go_enter Try.func15, Try.ntmps15
  go_wp2_with fail
  go_quiet (fail)
  go_wp2
  go_ret
  exact ⟨rfl, _, rfl⟩
end Go.Proofs.Ytinmfkbppgjcpaa.Lz
