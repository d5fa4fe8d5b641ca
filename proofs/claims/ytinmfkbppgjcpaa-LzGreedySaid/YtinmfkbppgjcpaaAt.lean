/- The contract of the reference's at. -/
import Derived.Test.YtinmfkbppgjcpaaFin
set_option linter.unusedVariables false
namespace Go.Proofs.Ytinmfkbppgjcpaa.Lz
open Go.RowKit LzP

theorem heap_alloc2 (w : World) (o o' : Obj) : ((w.alloc o).alloc o').heap[w.heap.size + 1]? = some o' := by
  have := heap_alloc_new (w.alloc o) o'
  rwa [World.size_alloc] at this

theorem cells3 {w : World} {b : Nat} {c0 c1 c2 : Value} {t : TypeId} (h : w.heap[b]? = some (.cells #[c0, c1, c2] t (0, 0))) :
    w.cell? ⟨b, 0, none⟩ = some c0 ∧ w.cell? ⟨b, 1, none⟩ = some c1 ∧ w.cell? ⟨b, 2, none⟩ = some c2 ∧ (∀ o, w.frozen? ⟨b, o, none⟩ = false) ∧ b < w.heap.size :=
  ⟨by simp [World.cell?, h], by simp [World.cell?, h], by simp [World.cell?, h], fun o => by simp [World.frozen?, h], (Array.getElem?_eq_some_iff.1 h).1⟩

theorem heap_set3 {w : World} {b : Nat} {c0 c1 c2 : Value} {t : TypeId} {fr : Nat × Nat} (h : w.heap[b]? = some (.cells #[c0, c1, c2] t fr)) (v0 v1 v2 : Value) :
    (((w.setCell ⟨b, 0, none⟩ v0).setCell ⟨b, 1, none⟩ v1).setCell ⟨b, 2, none⟩ v2).heap[b]? = some (.cells #[v0, v1, v2] t fr) := by
  have := heap_setCell_same (off := 2) (heap_setCell_same (off := 1) (heap_setCell_same (off := 0) h v0) v1) v2
  simpa using this
theorem below_set3 {B : Nat} {w0 w : World} (h : Below B w0 w) {b : Nat} (hb : B ≤ b) (v0 v1 v2 : Value) :
    Below B w0 (((w.setCell ⟨b, 0, none⟩ v0).setCell ⟨b, 1, none⟩ v1).setCell ⟨b, 2, none⟩ v2) := ((h.setCell hb v0).setCell hb v1).setCell hb v2
theorem heap_other3 (w : World) {b k : Nat} (hk : k ≠ b) (v0 v1 v2 : Value) :
    (((w.setCell ⟨b, 0, none⟩ v0).setCell ⟨b, 1, none⟩ v1).setCell ⟨b, 2, none⟩ v2).heap[k]? = w.heap[k]? := by
  rw [Below.heap_setCell _ _ _ _ hk, Below.heap_setCell _ _ _ _ hk, Below.heap_setCell _ _ _ _ hk]

/-- a piece as a value -/
def pv (p : Nat × Nat) (c : Int) : Value := .agg #[.int .i64 p.1, .int .i64 p.2, .int .u8 c]

set_option maxHeartbeats 1000000 in
set_option maxRecDepth 100000 in
theorem at_any (a : Option Addr) (n cap : Nat) (g : Nat → Int) (j win dep : Nat) (w : World) (ht : Txt w a n g) (hn : n ≤ 1048576) (hj : j < n) (hw : win ≤ 32768) (hd : dep ≤ 4096) :
    Calls Try.prog 29 #[.slice a n cap, .int .i64 j, .int .i64 win, .int .i64 dep] w fun e w' => e = .returned (pv (pc g n win dep j) (byt g j (pc g n win dep j))) ∧ Below w.heap.size w w' := by
  have HT := Lib.hid ht
  obtain ⟨b, off, rfl, hbl, hc⟩ := ht.pos (by omega)
  have hcj := hc j hj
  obtain ⟨R, hR⟩ : ∃ R, R = pc g n win dep j := ⟨_, rfl⟩
  rw [← hR]
  have HR := Lib.hid hR
  clear hc ht hR
  go_enter Try.func29, Try.ntmps29
  go_wp2_with fail
  go_loopw [3, 10] (fun d i wr => ∃ (m e : Nat) (p : Nat × Nat), m ≤ j ∧ e ≤ 4096 ∧ d = .int .i64 e ∧ i = .int .i64 ((m : Int) - 1) ∧ Hid (R = (cs g n j win m e).foldl (up g n j) p) ∧ wr.heap[w.heap.size + 1]? = some (.cells #[.int .i64 p.1, .int .i64 p.2, .int .u8 (byt g j p)] 47 (0, 0)) ∧
      wr.heap[w.heap.size]? = some (.cells #[.int .i64 0, .int .i64 0, .int .u8 0] 47 (0, 0)) ∧ Below w.heap.size w wr) (fun _ i _ => (intOf i + 1).toNat)
  case atStart =>
    refine ⟨j, dep, (0, 0), Nat.le_refl _, hd, rfl, rfl, Lib.hid HR.out, ?_, ?_, ?_⟩
    · exact heap_alloc2 _ _ _
    · rw [Below.heap_alloc _ _ _ (by simp)]; exact heap_alloc_new _ _
    · exact ((Below.refl _ _).alloc (Nat.le_refl _) _).alloc (by simp) _
  case round =>
    obtain ⟨m, e, p, hm, he, rfl, rfl, hR, hbest, hres, hbel⟩ := hrel
    cases m with
    | zero =>
      have HE := Lib.hid (show R = p by simpa [cs] using hR.out)
      have HB := Lib.hid hbest
      have HRE := Lib.hid hres
      have HL := Lib.hid hbel
      obtain ⟨c0, c1, c2, cf, clt⟩ := cells3 hbest
      obtain ⟨r0, r1, r2, rf, rlt⟩ := cells3 hres
      clear hR hbest hres hbel hm
      go_wp2
      have H3 := heap_set3 HRE.out (.int .i64 p.1) (.int .i64 p.2) (.int .u8 (byt g j p))
      have H4 := below_set3 HL.out (Nat.le_refl _) (.int .i64 p.1) (.int .i64 p.2) (.int .u8 (byt g j p))
      generalize (((wr.setCell ⟨w.heap.size, 0, none⟩ (.int .i64 p.1)).setCell ⟨w.heap.size, 1, none⟩ (.int .i64 p.2)).setCell ⟨w.heap.size, 2, none⟩ (.int .u8 (byt g j p))) = W at H3 H4 ⊢
      obtain ⟨s0, s1, s2, _⟩ := cells3 H3
      exact bodyPost_ret (v := pv p (byt g j p)) (by simp [results, Try.f29, pv, go_sem, s0, s1, s2]) rfl ⟨by rw [HE.out], H4⟩
    | succ m =>
      have hs : (((m + 1 : Nat) : Int) - 1) = (m : Int) := by omega
      rw [hs]
      clear hs
      obtain ⟨dd, hdd⟩ : ∃ dd, dd = j - m := ⟨_, rfl⟩
      have hsub : (j : Int) - (m : Int) = (dd : Int) := by omega
      by_cases h1 : dd ≤ win
      · by_cases h2 : 0 < e
        · have hst : R = if al g n m j < 3 then (cs g n j win m e).foldl (up g n j) p else (cs g n j win m (e - 1)).foldl (up g n j) (up g n j p m) := by
            rw [hR.out]; conv => lhs; unfold cs
            rw [if_neg (by omega)]; split <;> rfl
          have HST := Lib.hid hst
          have hal := al_le g n m j
          have HLN := Lib.hid (ref_len (some ⟨b, off, none⟩) n cap g m j wr (HT.out.below hbel) hn (by omega) hj)
          generalize hA : al g n m j = A at HLN hal
          have HA := Lib.hid hA
          have HB := Lib.hid hbest
          have HRE := Lib.hid hres
          have HL := Lib.hid hbel
          obtain ⟨c0, c1, c2, cf, clt⟩ := cells3 hbest
          have HDD := Lib.hid hdd
          clear hR hbest hres hbel hst hA hdd
          go_wp2_with fail
          refine HLN.out.mono ?_
          rintro e' w1 ⟨rfl, q, rfl⟩
          clear HLN
          by_cases h3 : A < 3
          · go_wp2
            exact ⟨⟨m, e, p, by omega, he, rfl, rfl, Lib.hid (by rw [HST.out, HA.out, if_pos h3]), HB.out, HRE.out, belowN HL.out⟩, by simp [intOf]⟩
          · by_cases h4 : p.1 < A
            · go_wp2
              have H3 := heap_set3 (w := wr.drewN q) HB.out (.int .i64 A) (.int .i64 dd) (.int .u8 0)
              have H4 := below_set3 (w := wr.drewN q) (belowN HL.out) (show w.heap.size ≤ w.heap.size + 1 by omega) (.int .i64 A) (.int .i64 dd) (.int .u8 0)
              have H5 := (heap_other3 (wr.drewN q) (show w.heap.size ≠ w.heap.size + 1 by omega) (.int .i64 A) (.int .i64 dd) (.int .u8 0)).trans HRE.out
              generalize ((((wr.drewN q).setCell ⟨w.heap.size + 1, 0, none⟩ (.int .i64 A)).setCell ⟨w.heap.size + 1, 1, none⟩ (.int .i64 dd)).setCell ⟨w.heap.size + 1, 2, none⟩ (.int .u8 0)) = W at H3 H4 H5 ⊢
              have hup : up g n j p m = (A, dd) := by unfold up; rw [HA.out, if_pos h4, HDD.out]
              have hby : byt g j (A, dd) = 0 := by unfold byt; rw [if_neg]; show ¬ A = 0; omega
              exact ⟨⟨m, e - 1, (A, dd), by omega, by omega, by go_num, rfl, Lib.hid (by rw [HST.out, HA.out, if_neg h3, hup]), by rw [hby]; exact H3, H5, H4⟩, by simp [intOf]⟩
            · go_wp2
              exact ⟨⟨m, e - 1, p, by omega, by omega, by go_num, rfl, Lib.hid (by rw [HST.out, HA.out, if_neg h3]; unfold up; rw [HA.out, if_neg h4]), HB.out, HRE.out, belowN HL.out⟩, by simp [intOf]⟩
        · obtain rfl : e = 0 := by omega
          have hst : R = p := by rw [hR.out]; unfold cs; rw [if_pos (.inl rfl)]; rfl
          have HE := Lib.hid hst
          have HB := Lib.hid hbest
          have HRE := Lib.hid hres
          have HL := Lib.hid hbel
          obtain ⟨c0, c1, c2, cf, clt⟩ := cells3 hbest
          obtain ⟨r0, r1, r2, rf, rlt⟩ := cells3 hres
          clear hR hbest hres hbel hst hdd
          go_wp2
          have H3 := heap_set3 HRE.out (.int .i64 p.1) (.int .i64 p.2) (.int .u8 (byt g j p))
          have H4 := below_set3 HL.out (Nat.le_refl _) (.int .i64 p.1) (.int .i64 p.2) (.int .u8 (byt g j p))
          generalize (((wr.setCell ⟨w.heap.size, 0, none⟩ (.int .i64 p.1)).setCell ⟨w.heap.size, 1, none⟩ (.int .i64 p.2)).setCell ⟨w.heap.size, 2, none⟩ (.int .u8 (byt g j p))) = W at H3 H4 ⊢
          obtain ⟨s0, s1, s2, _⟩ := cells3 H3
          exact bodyPost_ret (v := pv p (byt g j p)) (by simp [results, Try.f29, pv, go_sem, s0, s1, s2]) rfl ⟨by rw [HE.out], H4⟩
      · have hst : R = p := by rw [hR.out]; unfold cs; rw [if_pos (.inr (by omega))]; rfl
        have HE := Lib.hid hst
        have HB := Lib.hid hbest
        have HRE := Lib.hid hres
        have HL := Lib.hid hbel
        obtain ⟨c0, c1, c2, cf, clt⟩ := cells3 hbest
        obtain ⟨r0, r1, r2, rf, rlt⟩ := cells3 hres
        clear hR hbest hres hbel hst hdd
        go_wp2
        have H3 := heap_set3 HRE.out (.int .i64 p.1) (.int .i64 p.2) (.int .u8 (byt g j p))
        have H4 := below_set3 HL.out (Nat.le_refl _) (.int .i64 p.1) (.int .i64 p.2) (.int .u8 (byt g j p))
        generalize (((wr.setCell ⟨w.heap.size, 0, none⟩ (.int .i64 p.1)).setCell ⟨w.heap.size, 1, none⟩ (.int .i64 p.2)).setCell ⟨w.heap.size, 2, none⟩ (.int .u8 (byt g j p))) = W at H3 H4 ⊢
        obtain ⟨s0, s1, s2, _⟩ := cells3 H3
        exact bodyPost_ret (v := pv p (byt g j p)) (by simp [results, Try.f29, pv, go_sem, s0, s1, s2]) rfl ⟨by rw [HE.out], H4⟩
end Go.Proofs.Ytinmfkbppgjcpaa.Lz
