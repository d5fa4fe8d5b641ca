/- Servers and configurations that came in: how they are opened. -/
import Derived.Test.YtlaoeciflifggaaW4
import Derived.Deep.Slices
import Derived.ChangeSame
import Derived.ProofKit
import Derived.SizedLaws
set_option linter.unusedVariables false
namespace Go.Proofs.Ytlaoeciflifggaa.Rt
open Go.ChangeShapes Go.WideShapes Go.Deep

theorem at_cell {w : World} {x : Addr} {v : Value} (h : w.cell? x = some v) : x.spot = none ∧ x.block < w.heap.size := by
  unfold World.cell? at h
  cases hb : w.heap[x.block]? with
  | none => rw [hb] at h; cases h
  | some o =>
    rw [hb] at h
    refine ⟨?_, (Array.getElem?_eq_some_iff.1 hb).1⟩
    cases o with
    | cells c e fr =>
      simp only at h
      split at h
      · cases h
      · rename_i hs; cases hx : x.spot with
        | none => rfl
        | some s => rw [hx] at hs; simp at hs
    | _ => cases h

section
variable {H : Type} {enc : TypeId × Value → H} {w : World} {base : Nat} {held : Bool}

/-- all that is weighed of a datum is within reach -/
def Light (t : TypeId) (d : DataW H) : Prop := ∀ k ∈ d.weights Try.prog t, k ≤ reachBytes

theorem weights_all_mem {e : TypeId} : ∀ {l : List (DataW H)} {d : DataW H}, d ∈ l → ∀ k ∈ d.weights Try.prog e, k ∈ DataW.weightsAll Try.prog e l
  | d0 :: l, d, hd, k, hk => by
    simp only [DataW.weightsAll, List.mem_append]
    rcases List.mem_cons.1 hd with rfl | hd
    · exact .inl hk
    · exact .inr (weights_all_mem hd k hk)

theorem light_field {t : TypeId} {fs : Array Field} {parts : List (DataW H)} (ht : Try.prog.underlying t = some (.struct fs)) (h : Light t (.agg parts)) {j : Nat} {f : Field} {d : DataW H} (hf : fs.toList[j]? = some f) (hd : parts[j]? = some d) : Light f.type d := fun k hk => by
  refine h k ?_
  unfold DataW.weights
  rw [ht]
  exact DataW.weights_mem_each (j := j) (t := f.type) (by simp [hf]) hd k hk

/-- a slice that came in, read element by element -/
theorem open_list {α : Type} {t e : TypeId} {fuel : Nat} {c : Value} {x : DataW H × List MemPlace} (ht : Try.prog.underlying t = some (.slice e)) (sz : Nat) (hC : Try.prog.cellsOf e = sz) (hsz : 0 < sz)
    (V : List Value → α → Prop) (Good : α → Prop) (hlen : ∀ v z, V v z → v.length = sz)
    (rd : ∀ n cs D Pl, DataW.trod enc Try.prog w base (fun _ => true) held n e cs = some (D, Pl) → Light e D → ∃ z : α, V cs z ∧ Good z)
    (h : DataW.trod enc Try.prog w base (fun _ => true) held fuel t [c] = some x) (hw : Light t x.1) :
    ∃ (L : List α) (a : Option Addr) (cap : Nat), c = .slice a L.length cap ∧ StructsAt w a sz (fun _ v z => V v z) L ∧ (∀ z ∈ L, Good z) ∧ (a = none → cap = 0) ∧ L.length * Try.prog.bytesOf e ≤ reachBytes ∧ L.length ≤ cap ∧ cap ≤ maxLen := by
  rcases open_slice ht h with ⟨hcs, hx⟩ | ⟨ad, len, cap, m, n, D, Pl, hcs, hb, hl, hm, hmm, hx, hi⟩
  · cases hcs
    exact ⟨[], none, 0, rfl, fun i z hz => by simp at hz, fun z hz => by simp at hz, fun _ => rfl, by simp, Nat.le_refl _, by simp⟩
  · cases hcs
    simp only [if_true] at hmm
    subst hx
    have hwl : ∀ i, i < len → Light e (D i) := fun i hi k hk => by
      refine hw k ?_
      unfold DataW.weights
      rw [ht]
      simp only [List.mem_cons, List.mem_append]
      exact .inr (.inl (weights_all_mem (List.mem_map.2 ⟨i, List.mem_range.2 hi, rfl⟩) k hk))
    have hall : ∀ i, i < len → ∃ p : List Value × α, w.cells? base (ad.add (i * sz)) sz = some p.1 ∧ V p.1 p.2 ∧ Good p.2 := fun i him => by
      obtain ⟨cs', hc, ht'⟩ := hi i (by omega)
      rw [hC] at hc
      obtain ⟨z, hz1, hz2⟩ := rd n cs' (D i) (Pl i) ht' (hwl i him)
      exact ⟨(cs', z), hc, hz1, hz2⟩
    have hch : ∃ f : Nat → Option (List Value × α), ∀ i, i < len → ∃ p, f i = some p ∧ w.cells? base (ad.add (i * sz)) sz = some p.1 ∧ V p.1 p.2 ∧ Good p.2 := by
      obtain ⟨f, hf⟩ := choose_lt (α := Option (List Value × α)) (p := fun i q => ∃ p, q = some p ∧ w.cells? base (ad.add (i * sz)) sz = some p.1 ∧ V p.1 p.2 ∧ Good p.2) (fun i hi => by
        obtain ⟨p, hp⟩ := hall i hi
        exact ⟨some p, p, rfl, hp⟩)
      exact ⟨f, hf⟩
    obtain ⟨f, hf⟩ := hch
    have hfl : ∀ k, k ≤ len → ∃ L : List α, L.length = k ∧ ∀ i z, L[i]? = some z → ∃ p, f i = some p ∧ p.2 = z := by
      intro k
      induction k with
      | zero => intro _; exact ⟨[], rfl, fun i z hz => by simp at hz⟩
      | succ k ih =>
        intro hk
        obtain ⟨L, h1, h2⟩ := ih (by omega)
        obtain ⟨p, hp, _⟩ := hf k (by omega)
        refine ⟨L ++ [p.2], by simp [h1], fun i z hz => ?_⟩
        by_cases hik : i < L.length
        · rw [List.getElem?_append_left hik] at hz; exact h2 i z hz
        · rw [List.getElem?_append_right (by omega)] at hz
          have : i - L.length = 0 := by
            rcases Nat.eq_zero_or_pos (i - L.length) with h | h
            · exact h
            · rw [List.getElem?_eq_none (by simp; omega)] at hz; cases hz
          rw [this] at hz
          simp at hz
          have hi : i = k := by omega
          exact ⟨p, by rw [hi]; exact hp, hz⟩
    obtain ⟨L, hL1, hL2⟩ := hfl len (Nat.le_refl _)
    have hget : ∀ i z, L[i]? = some z → ∃ cs', w.cells? base (ad.add (i * sz)) sz = some cs' ∧ V cs' z ∧ Good z := fun i z hz => by
      have him : i < len := by have := (List.getElem?_eq_some_iff.1 hz).1; omega
      obtain ⟨p, hp, rfl⟩ := hL2 i z hz
      obtain ⟨p', hp', h3, h4, h5⟩ := hf i him
      rw [hp] at hp'; cases hp'
      exact ⟨p.1, h3, h4, h5⟩
    refine ⟨L, some ad, cap, by rw [hL1], fun i z hz => ?_, fun z hz => ?_, (fun e => by cases e), ?_, by omega, hm⟩
    · obtain ⟨cs', hc, hv, _⟩ := hget i z hz
      obtain ⟨_, hcl, hat⟩ := World.cells?_some hc
      have hl' := hlen _ _ hv
      obtain ⟨b, off, spot⟩ := ad
      have hLp : 0 < L.length := by have := (List.getElem?_eq_some_iff.1 hz).1; omega
      obtain ⟨cs0, hc0, hv0, _⟩ := hget 0 L[0] (List.getElem?_eq_getElem _)
      obtain ⟨_, hcl0, hat0⟩ := World.cells?_some hc0
      have h0 := hat0 0 hsz
      rw [List.getElem?_eq_getElem (by omega), Nat.zero_mul, add_add] at h0
      obtain ⟨hs0, hlt0⟩ := at_cell h0
      have e : spot = none := by simpa [Addr.add] using hs0
      subst e
      have hadd : ∀ k, (⟨b, off, none⟩ : Addr).add k = ⟨b, off + k, none⟩ := by
        intro k; unfold Addr.add; split
        · subst k; rfl
        · rfl
      rw [hadd] at hlt0
      refine ⟨b, off, cs', rfl, hlt0, hv, fun j u hj => ?_⟩
      have hjl := (List.getElem?_eq_some_iff.1 hj).1
      have := hat j (by omega)
      rw [add_add, hadd, hj] at this
      rw [Nat.add_assoc]; exact this
    · obtain ⟨i, hi'⟩ := List.getElem?_of_mem hz
      obtain ⟨_, _, _, hg⟩ := hget i z hi'
      exact hg
    · have := hw ((((List.range len).map D).length + ((List.range (m - len)).map fun j => D (len + j)).length) * Try.prog.bytesOf e) (by unfold DataW.weights; rw [ht]; simp)
      simp only [List.length_map, List.length_range] at this
      rw [hL1]
      exact Nat.le_trans (Nat.mul_le_mul_right _ (by omega)) this

theorem cells9 : Try.prog.cellsOf 9 = 1 := by kernel_rfl
theorem cells3' : Try.prog.cellsOf 3 = 1 := by kernel_rfl
theorem cells4 : Try.prog.cellsOf 4 = 1 := by kernel_rfl

theorem rd_name {n : Nat} {cs : List Value} {D : DataW H} {Pl : List MemPlace} (h : DataW.trod enc Try.prog w base (fun _ => true) held n 9 cs = some (D, Pl)) (hl : Light 9 D) : ∃ s : ByteArray, cs = [.string s] ∧ s.size ≤ reachBytes := by
  obtain ⟨s, rfl, hx, _⟩ := DataW.trod_string Try.underlying9 h
  cases hx
  refine ⟨s, rfl, ?_⟩
  have := hl s.data.toList.length (by simp [DataW.weights])
  simpa using this

theorem rd_loc {n : Nat} {cs : List Value} {D : DataW H} {Pl : List MemPlace} (h : DataW.trod enc Try.prog w base (fun _ => true) held n 56 cs = some (D, Pl)) : ∃ l : Loc, cs = locVals l := by
  have hC : Try.prog.cellsOf 56 = 12 := by kernel_rfl
  obtain ⟨ys, n', hn', hy, hlen, hyl, hfl⟩ := DataW.trod_struct Try.underlying56 h
  rw [hC] at hlen
  have h0 : DataW.trod enc Try.prog w base (fun _ => true) held n' 9 ((cs.drop 0).take (Try.prog.cellsOf 9)) = ys[0]? := hfl 0 _ rfl
  rw [cells9] at h0
  have h1 : DataW.trod enc Try.prog w base (fun _ => true) held n' 3 ((cs.drop 1).take (Try.prog.cellsOf 3)) = ys[1]? := hfl 1 _ rfl
  rw [cells3'] at h1
  have h2 : DataW.trod enc Try.prog w base (fun _ => true) held n' 9 ((cs.drop 2).take (Try.prog.cellsOf 9)) = ys[2]? := hfl 2 _ rfl
  rw [cells9] at h2
  have h3 : DataW.trod enc Try.prog w base (fun _ => true) held n' 9 ((cs.drop 3).take (Try.prog.cellsOf 9)) = ys[3]? := hfl 3 _ rfl
  rw [cells9] at h3
  have h4 : DataW.trod enc Try.prog w base (fun _ => true) held n' 3 ((cs.drop 4).take (Try.prog.cellsOf 3)) = ys[4]? := hfl 4 _ rfl
  rw [cells3'] at h4
  have h5 : DataW.trod enc Try.prog w base (fun _ => true) held n' 3 ((cs.drop 5).take (Try.prog.cellsOf 3)) = ys[5]? := hfl 5 _ rfl
  rw [cells3'] at h5
  have h6 : DataW.trod enc Try.prog w base (fun _ => true) held n' 9 ((cs.drop 6).take (Try.prog.cellsOf 9)) = ys[6]? := hfl 6 _ rfl
  rw [cells9] at h6
  have h7 : DataW.trod enc Try.prog w base (fun _ => true) held n' 4 ((cs.drop 7).take (Try.prog.cellsOf 4)) = ys[7]? := hfl 7 _ rfl
  rw [cells4] at h7
  have h8 : DataW.trod enc Try.prog w base (fun _ => true) held n' 3 ((cs.drop 8).take (Try.prog.cellsOf 3)) = ys[8]? := hfl 8 _ rfl
  rw [cells3'] at h8
  have h9 : DataW.trod enc Try.prog w base (fun _ => true) held n' 3 ((cs.drop 9).take (Try.prog.cellsOf 3)) = ys[9]? := hfl 9 _ rfl
  rw [cells3'] at h9
  have h10 : DataW.trod enc Try.prog w base (fun _ => true) held n' 3 ((cs.drop 10).take (Try.prog.cellsOf 3)) = ys[10]? := hfl 10 _ rfl
  rw [cells3'] at h10
  have h11 : DataW.trod enc Try.prog w base (fun _ => true) held n' 9 ((cs.drop 11).take (Try.prog.cellsOf 9)) = ys[11]? := hfl 11 _ rfl
  rw [cells9] at h11
  match cs, hlen with
  | [v0, v1, v2, v3, v4, v5, v6, v7, v8, v9, v10, v11], _ =>
    have hyl' : ys.length = 12 := hyl
    match ys, hyl' with
    | [y0, y1, y2, y3, y4, y5, y6, y7, y8, y9, y10, y11], _ =>
      obtain ⟨z0, e0, _⟩ := DataW.trod_string Try.underlying9 h0
      obtain ⟨z1, e1, _⟩ := DataW.trod_int Try.underlying3 h1
      obtain ⟨z2, e2, _⟩ := DataW.trod_string Try.underlying9 h2
      obtain ⟨z3, e3, _⟩ := DataW.trod_string Try.underlying9 h3
      obtain ⟨z4, e4, _⟩ := DataW.trod_int Try.underlying3 h4
      obtain ⟨z5, e5, _⟩ := DataW.trod_int Try.underlying3 h5
      obtain ⟨z6, e6, _⟩ := DataW.trod_string Try.underlying9 h6
      obtain ⟨z7, e7, _⟩ := DataW.trod_bool Try.underlying4 h7
      obtain ⟨z8, e8, _⟩ := DataW.trod_int Try.underlying3 h8
      obtain ⟨z9, e9, _⟩ := DataW.trod_int Try.underlying3 h9
      obtain ⟨z10, e10, _⟩ := DataW.trod_int Try.underlying3 h10
      obtain ⟨z11, e11, _⟩ := DataW.trod_string Try.underlying9 h11
      simp at e0 e1 e2 e3 e4 e5 e6 e7 e8 e9 e10 e11
      subst e0; subst e1; subst e2; subst e3; subst e4; subst e5; subst e6; subst e7; subst e8; subst e9; subst e10; subst e11
      exact ⟨⟨z0, z1, z2, z3, z4, z5, z6, z7, z8, z9, z10, z11⟩, rfl⟩

theorem elems_of_structs {α : Type} {w : World} {a : Option Addr} {sz : Nat} {vals : α → List Value} {L : List α} (h : StructsAt w a sz (fun _ v z => v = vals z) L) : ElemsAt w a sz vals L := fun i x hx => by
  obtain ⟨b, off, v, rfl, hlt, rfl, hc⟩ := h i x hx
  exact ⟨b, off, rfl, hlt, hc⟩
theorem bytes9 : Try.prog.bytesOf 9 = 16 := by kernel_rfl
theorem bytes56 : Try.prog.bytesOf 56 = 136 := by kernel_rfl
theorem bytes50 : Try.prog.bytesOf 50 = 56 := by kernel_rfl
theorem bytes63 : Try.prog.bytesOf 63 = 56 := by kernel_rfl
theorem bytes68 : Try.prog.bytesOf 68 = 16 := by kernel_rfl

theorem rd_names {n : Nat} {c : Value} {x : DataW H × List MemPlace} (h : DataW.trod enc Try.prog w base (fun _ => true) held n 43 [c] = some x) (hl : Light 43 x.1) :
    ∃ (L : List ByteArray) (a : Option Addr) (cap : Nat), c = .slice a L.length cap ∧ NamesAt w a L ∧ (∀ s ∈ L, s.size ≤ reachBytes) ∧ (a = none → cap = 0) ∧ L.length * 16 ≤ reachBytes ∧ cap ≤ maxLen := by
  obtain ⟨L, a, cap, h1, h2, h3, h4, h5, h6, h7⟩ := open_list (α := ByteArray) Try.underlying43 1 cells9 (by omega) (fun v z => v = [.string z]) (fun s => s.size ≤ reachBytes) (fun v z e => by rw [e]; rfl)
    (fun n cs D Pl h hl => by obtain ⟨s, h1, h2⟩ := rd_name h hl; exact ⟨s, h1, h2⟩) h hl
  rw [bytes9] at h5
  exact ⟨L, a, cap, h1, elems_of_structs h2, h3, h4, h5, h7⟩

theorem rd_locs {n : Nat} {c : Value} {x : DataW H × List MemPlace} (h : DataW.trod enc Try.prog w base (fun _ => true) held n 48 [c] = some x) (hl : Light 48 x.1) :
    ∃ (L : List Loc) (a : Option Addr) (cap : Nat), c = .slice a L.length cap ∧ LocsAt w a L ∧ L.length * 136 ≤ reachBytes ∧ cap ≤ maxLen := by
  obtain ⟨L, a, cap, h1, h2, h3, h4, h5, h6, h7⟩ := open_list (α := Loc) Try.underlying48 12 (by kernel_rfl) (by omega) (fun v z => v = locVals z) (fun _ => True) (fun v z e => by rw [e]; rfl)
    (fun n cs D Pl h hl => by obtain ⟨l, h1⟩ := rd_loc h; exact ⟨l, h1, trivial⟩) h hl
  rw [bytes56] at h5
  exact ⟨L, a, cap, h1, elems_of_structs h2, h5, h7⟩

theorem rd_srv {n : Nat} {cs : List Value} {D : DataW H} {Pl : List MemPlace} (h : DataW.trod enc Try.prog w base (fun _ => true) held n 50 cs = some (D, Pl)) (hl : Light 50 D) :
    ∃ s : Srv, SrvV w cs s ∧ SrvOk s ∧ SrvFit s := by
  have hC : Try.prog.cellsOf 50 = 3 := by kernel_rfl
  have c43 : Try.prog.cellsOf 43 = 1 := by kernel_rfl
  have c48 : Try.prog.cellsOf 48 = 1 := by kernel_rfl
  obtain ⟨ys, n', hn', hy, hlen, hyl, hfl⟩ := DataW.trod_struct Try.underlying50 h
  rw [hC] at hlen
  have h0 : DataW.trod enc Try.prog w base (fun _ => true) held n' 43 ((cs.drop 0).take (Try.prog.cellsOf 43)) = ys[0]? := hfl 0 _ rfl
  have h1 : DataW.trod enc Try.prog w base (fun _ => true) held n' 4 ((cs.drop 1).take (Try.prog.cellsOf 4)) = ys[1]? := hfl 1 _ rfl
  have h2 : DataW.trod enc Try.prog w base (fun _ => true) held n' 48 ((cs.drop 2).take (Try.prog.cellsOf 48)) = ys[2]? := hfl 2 _ rfl
  rw [c43] at h0
  rw [cells4] at h1
  rw [c48] at h2
  match cs, hlen with
  | [v0, v1, v2], _ =>
    have hyl' : ys.length = 3 := hyl
    match ys, hyl' with
    | [y0, y1, y2], _ =>
      have hD : D = .agg [y0.1, y1.1, y2.1] := congrArg Prod.fst hy
      subst hD
      obtain ⟨N, na, nc, e0, hn, hng, hnn, hn16, _⟩ := rd_names h0 (light_field Try.underlying50 hl (j := 0) rfl rfl)
      obtain ⟨bv, e1, _⟩ := DataW.trod_bool Try.underlying4 h1
      obtain ⟨L, la, lc, e2, hL, hL136, _⟩ := rd_locs h2 (light_field Try.underlying50 hl (j := 2) rfl rfl)
      simp at e1
      subst e0; subst e1; subst e2
      unfold reachBytes at hng hn16 hL136
      exact ⟨⟨N, bv, L⟩, ⟨na, nc, la, lc, rfl, hn, hL, hnn⟩, ⟨by show N.length ≤ _; omega, by show L.length ≤ _; omega, fun s hs => by have := hng s hs; omega⟩, ⟨hn16, hL136⟩⟩

/-- a server that is an argument, opened -/
theorem open_srv {v : Value} {d : DataW H} {p : List MemPlace} (hv : ∃ cs, v = .agg cs ∧ cs.size = Try.prog.cellsOf 50) (h : DataW.Trod enc Try.prog w base (fun _ => true) held 50 v d p) (hl : Light 50 d) :
    ∃ (s : Srv) (na : Option Addr) (nc : Nat) (la : Option Addr) (lc : Nat), v = .agg #[.slice na s.names.length nc, .bool s.dflt, .slice la s.locs.length lc] ∧ SrvArg w na nc la lc s := by
  obtain ⟨cs, rfl, _⟩ := hv
  obtain ⟨fuel, hf⟩ := h
  have hf' : DataW.trod enc Try.prog w base (fun _ => true) held fuel 50 cs.toList = some (d, p) := hf
  obtain ⟨s, ⟨na, nc, la, lc, e, h1, h2, h3⟩, h4, h5⟩ := rd_srv hf' hl
  have : cs = #[.slice na s.names.length nc, .bool s.dflt, .slice la s.locs.length lc] := Array.toList_inj.1 e
  subst this
  exact ⟨s, na, nc, la, lc, rfl, h1, h2, h3, h4, h5⟩

theorem light_arg {ts : List TypeId} {ds : List (DataW H)} (h : (DataW.weightsEach Try.prog ts ds).all (· ≤ reachBytes) = true) {j : Nat} {t : TypeId} {d : DataW H} (ht : ts[j]? = some t) (hd : ds[j]? = some d) : Light t d := fun k hk => by
  have := List.all_eq_true.1 h k (DataW.weights_mem_each ht hd k hk)
  simpa using this
theorem small_string {ts : List TypeId} {ds : List (DataW H)} (h : (DataW.weightsEach Try.prog ts ds).all (· ≤ reachBytes) = true) {j : Nat} {t : TypeId} {a : ByteArray} (ht : ts[j]? = some t) (hd : ds[j]? = some (.lit (.string a.data.toList))) : a.size ≤ 4611686018427387904 := by
  have := sized_string h ht hd
  have h2 : a.data.toList.length = a.size := by simp
  unfold reachBytes at this
  omega
end
end Go.Proofs.Ytlaoeciflifggaa.Rt
