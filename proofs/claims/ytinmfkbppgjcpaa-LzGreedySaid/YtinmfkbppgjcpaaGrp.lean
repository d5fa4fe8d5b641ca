/- A map from three bytes to places: look-up, entry, store. -/
import Derived.Test.YtinmfkbppgjcpaaLent
import Derived.WideKeyArr
import Derived.WideKeyEntry
import Derived.Maps.Keyed
set_option linter.unusedVariables false
namespace Go.Proofs.Ytinmfkbppgjcpaa.Lz
open Go.RowKit LzP Go.WideMaps

theorem arr61 : ArrKey Try.prog 61 5 3 := ⟨Try.underlying61, by kernel_rfl, by kernel_rfl, by kernel_rfl⟩
theorem law61 : Go.Maps.Keyed Try.prog 61 := Go.Maps.Keyed.of_law arr61.law

/-- a key as a value -/
def keyV (k : Int × Int × Int) : Value := .agg #[.int .u8 k.1, .int .u8 k.2.1, .int .u8 k.2.2]
/-- three bytes -/
def okK (k : Int × Int × Int) : Prop := (0 ≤ k.1 ∧ k.1 ≤ 255) ∧ (0 ≤ k.2.1 ∧ k.2.1 ≤ 255) ∧ (0 ≤ k.2.2 ∧ k.2.2 ≤ 255)

theorem keyV_inj {k k' : Int × Int × Int} (h : keyV k = keyV k') : k = k' := by
  obtain ⟨a, b, c⟩ := k
  obtain ⟨a', b', c'⟩ := k'
  simp [keyV] at h
  obtain ⟨h1, h2, h3⟩ := h
  rw [h1, h2, h3]

theorem tsize : Try.prog.types.size = 85 := by kernel_rfl
theorem cells61 : Try.prog.cellsOf 61 = 3 := by kernel_rfl
theorem cells5 : Try.prog.cellsOf 5 = 1 := by kernel_rfl
theorem ktype61 : Try.prog.keyType 61 = true := by kernel_rfl

theorem wf8 {x : Int} (h : 0 ≤ x ∧ x ≤ 255) : (Lit.int .u8 x).wf = true := by
  have h1 : IntKind.u8.min = 0 := rfl
  have h2 : IntKind.u8.max = 255 := rfl
  simp [Lit.wf, h1, h2]
  omega

theorem lits5 (d : Nat) {x : Int} (h : 0 ≤ x ∧ x ≤ 255) : Try.prog.keyLits (d + 1) 5 [.int .u8 x] = some [.int .u8 x] := by
  simp only [Program.keyLits, Try.underlying5]
  rw [if_pos ⟨trivial, wf8 h⟩]
theorem lits61 (d : Nat) {k : Int × Int × Int} (h : okK k) : Try.prog.keyLits (d + 2) 61 [.int .u8 k.1, .int .u8 k.2.1, .int .u8 k.2.2] = some [.int .u8 k.1, .int .u8 k.2.1, .int .u8 k.2.2] := by
  have e : (List.range 3).mapM (fun i => Try.prog.keyLits (d + 1) 5 (([.int .u8 k.1, .int .u8 k.2.1, .int .u8 k.2.2].drop (i * Try.prog.cellsOf 5)).take (Try.prog.cellsOf 5))) = some [[.int .u8 k.1], [.int .u8 k.2.1], [.int .u8 k.2.2]] := by
    rw [cells5]
    show [0, 1, 2].mapM _ = _
    simp only [List.mapM_cons, List.mapM_nil, Nat.zero_mul, Nat.one_mul, List.drop_zero, List.drop_succ_cons, List.take_succ_cons, List.take_zero, Nat.reduceMul]
    rw [lits5 d h.1, lits5 d h.2.1, lits5 d h.2.2]
    rfl
  unfold Program.keyLits
  simp only [Try.underlying61]
  rw [if_pos (by rw [cells61]; rfl), e]
  rfl

theorem keyOf_v {k : Int × Int × Int} (h : okK k) : ∃ l, keyOf Try.prog 61 (keyV k) = some l := by
  unfold keyOf
  rw [Try.underlying61]
  simp only [ktype61, Bool.true_and]
  have hf : (keyV k).formed Try.prog 61 = true := by simp [Value.formed, keyV, Try.underlying61, cells61]
  rw [if_pos hf, tsize]
  have : Try.prog.keyLits (85 + 1) 61 (keyV k).cells.toList = some [.int .u8 k.1, .int .u8 k.2.1, .int .u8 k.2.2] := lits61 84 h
  rw [this]
  exact ⟨_, rfl⟩

section
open Go.MapKept Go.ChangeMaps
variable {P : Program} {t k e : TypeId} {b : Nat} {es : Array MapEntry} {clock : Nat}

/-- an entry, then its store: in whatever worlds, the map's block aside -/
theorem entry_store (K : Go.Maps.Keyed P k) (ht : P.underlying t = some (.map k e)) {z : Value} (hz : ∀ u : World, (zeroValue e).run P u = .ok z u) (hst : Stamped es clock)
    (hks : ∀ x ∈ es.toList, ∃ l, keyOf P k x.key = some l) {key : Value} {kl : Lit} (hkey : keyOf P k key = some kl) :
    ∃ (v0 : Value) (st : Nat) (es1 : Array MapEntry) (clock1 : Nat), (∀ w : World, w.heap[b]? = some (.map es clock) → (Instr.mapEntry t (.map (some b)) key).run P w = .ok (.tuple #[v0, goInt st]) (setBlock w b (.map es1 clock1))) ∧
      ((∃ e0 ∈ es.toList, e0.key = key ∧ v0 = e0.val) ∨ ((∀ x ∈ es.toList, x.key ≠ key) ∧ v0 = z)) ∧
      ∀ (val : Value), ∃ es' clock', (∀ w2 : World, w2.heap[b]? = some (.map es1 clock1) → (Instr.entryStore t (.map (some b)) (goInt st) val).run P w2 = .ok () (setBlock w2 b (.map es' clock'))) ∧
        Stamped es' clock' ∧ (∀ x ∈ es'.toList, (x ∈ es.toList ∧ x.key ≠ key) ∨ (x.key = key ∧ x.val = val)) ∧ (∀ x ∈ es.toList, x.key ≠ key → x ∈ es'.toList) ∧ ∃ x ∈ es'.toList, x.key = key ∧ x.val = val := by
  obtain ⟨s1, s2, s3⟩ := hst
  have hap := ((stamped_iff es clock).1 ⟨s1, s2, s3⟩).2.2
  have w0 : World := { (default : World) with heap := #[] }
  rcases K.find w0 hkey es.toList hks with ⟨h1, h2⟩ | ⟨j, e0, h1, h2, h3⟩
  · have hf : ∀ w : World, (Instr.findKey k key es.toList).run P w = .ok none w := fun w => by
      rcases K.find w hkey es.toList hks with ⟨h, _⟩ | ⟨j, e0, _, h2', h3⟩
      · exact h
      · exact absurd h3 (h2 e0 (List.mem_of_getElem? h2'))
    refine ⟨z, clock, es.push ⟨key, z, clock⟩, clock + 1, ?_, Or.inr ⟨h2, rfl⟩, fun val => ⟨es.push ⟨key, val, clock⟩, clock + 1, ?_, stamped_push ⟨s1, s2, s3⟩ h2, ?_, ?_, ?_⟩⟩
    · intro w hb
      simp [Instr.mapEntry, run_underlying ht, MapKept.run_getObj_map hb, K.check w false hkey, hf, hz, MapKept.run_setObj_map _ hb, Result.andThen, setBlock]
    · intro w2 hw2
      have hidx : (es.push ⟨key, z, clock⟩).findIdx? (fun e => ((e.born : Nat) : Int) == ((clock : Nat) : Int)) = some es.size := by
        rw [WideElems.findIdx_arr]
        have := WideElems.findIdx_born (l := (es.push ⟨key, z, clock⟩).toList) (j := es.size) (e0 := ⟨key, z, clock⟩) (by
          simp only [Array.toList_push, List.map_append, List.map_cons, List.map_nil]
          refine List.nodup_append.2 ⟨s2, by simp, fun a ha c hc e1 => ?_⟩
          simp only [List.mem_singleton] at hc
          obtain ⟨x, hx, rfl⟩ := List.mem_map.1 ha
          have := s1 x hx
          omega) (by simp)
        exact this
      have hmod : (es.push ⟨key, z, clock⟩).modify es.size (fun e => { e with val := val }) = es.push ⟨key, val, clock⟩ := by
        apply Array.ext'
        rw [Array.toList_modify, Array.toList_push, Array.toList_push, ← Array.length_toList, WideElems.modify_last]
      simp [Instr.entryStore, MapKept.run_getObj_map hw2, asInt, asIntOf, goInt, hidx, hmod, MapKept.run_setObj_map _ hw2, Result.andThen, setBlock]
    · intro x hx
      simp only [Array.toList_push, List.mem_append, List.mem_singleton] at hx
      rcases hx with hx | rfl
      · exact .inl ⟨hx, h2 x hx⟩
      · exact .inr ⟨rfl, rfl⟩
    · intro x hx _
      simp only [Array.toList_push, List.mem_append]
      exact .inl hx
    · exact ⟨⟨key, val, clock⟩, by simp, rfl, rfl⟩
  · have hf : ∀ w : World, (Instr.findKey k key es.toList).run P w = .ok (some (j, e0.val)) w := fun w => by
      rcases K.find w hkey es.toList hks with ⟨_, h⟩ | ⟨j', e1, h, h2', h3'⟩
      · exact absurd h3 (h e0 (List.mem_of_getElem? h2))
      · have hjj : j' = j := by
          rcases Nat.lt_trichotomy j' j with hlt | he | hlt
          · obtain ⟨p1, q1⟩ := List.getElem?_eq_some_iff.1 h2'
            obtain ⟨p2, q2⟩ := List.getElem?_eq_some_iff.1 h2
            have := (List.pairwise_iff_getElem.1 hap) j' j p1 p2 hlt
            rw [q1, q2] at this
            exact absurd (h3'.trans h3.symm) this
          · exact he
          · obtain ⟨p1, q1⟩ := List.getElem?_eq_some_iff.1 h2'
            obtain ⟨p2, q2⟩ := List.getElem?_eq_some_iff.1 h2
            have := (List.pairwise_iff_getElem.1 hap) j j' p2 p1 hlt
            rw [q1, q2] at this
            exact absurd (h3.trans h3'.symm) this
        subst hjj
        rw [h2] at h2'
        cases h2'
        exact h
    have hj : es[j]? = some e0 := by simpa using h2
    have hsame : es.modify j (fun e => { e with key := key }) = es := by
      apply Array.ext'
      rw [Array.toList_modify, modify_eq_set _ _ _ _ h2]
      have : ({ e0 with key := key } : MapEntry) = e0 := by rw [← h3]
      rw [this]
      exact WideElems.set_self _ _ _ h2
    have hset : ∀ val : Value, (es.modify j fun e => { e with val := val }).toList = es.toList.set j { e0 with val := val } := fun val => by
      rw [Array.toList_modify, modify_eq_set _ _ _ _ h2]
    refine ⟨e0.val, e0.born, es, clock, ?_, Or.inl ⟨e0, List.mem_of_getElem? h2, h3, rfl⟩, fun val => ⟨es.modify j (fun e' => { e' with val := val }), clock, ?_, ?_, ?_, ?_, ?_⟩⟩
    · intro w hb
      simp [Instr.mapEntry, run_underlying ht, MapKept.run_getObj_map hb, K.check w false hkey, hf, hj, h3, K.stays w hkey, hsame, MapKept.run_setObj_map _ hb, Result.andThen, setBlock]
    · intro w2 hw2
      have hidx : es.findIdx? (fun e => ((e.born : Nat) : Int) == ((e0.born : Nat) : Int)) = some j := by
        rw [WideElems.findIdx_arr]
        exact WideElems.findIdx_born s2 h2
      simp [Instr.entryStore, MapKept.run_getObj_map hw2, asInt, asIntOf, goInt, hidx, MapKept.run_setObj_map _ hw2, Result.andThen, setBlock]
    · exact stamped_modify ⟨s1, s2, s3⟩ j _ (fun _ _ => rfl) (fun _ _ _ => rfl)
    · intro x hx
      rw [hset] at hx
      obtain ⟨i, hi, hxe⟩ := List.mem_iff_getElem.1 hx
      simp only [List.length_set] at hi
      rw [List.getElem_set] at hxe
      split at hxe
      · subst hxe; exact .inr ⟨h3, rfl⟩
      · rename_i hne
        refine .inl ⟨by rw [← hxe]; exact List.getElem_mem hi, fun hk => ?_⟩
        obtain ⟨p2, q2⟩ := List.getElem?_eq_some_iff.1 h2
        rcases Nat.lt_or_gt_of_ne hne with hlt | hlt
        · have := (List.pairwise_iff_getElem.1 hap) j i p2 hi hlt
          rw [q2, hxe, h3, hk] at this; exact this rfl
        · have := (List.pairwise_iff_getElem.1 hap) i j hi p2 hlt
          rw [q2, hxe, h3, hk] at this; exact this rfl
    · intro x hx hne
      rw [hset]
      obtain ⟨i, hi, hxe⟩ := List.mem_iff_getElem.1 hx
      refine List.mem_iff_getElem.2 ⟨i, by simpa using hi, ?_⟩
      rw [List.getElem_set_ne]
      · exact hxe
      · intro q
        subst q
        obtain ⟨p2, q2⟩ := List.getElem?_eq_some_iff.1 h2
        rw [hxe] at q2
        rw [q2] at hne
        exact hne h3
    · refine ⟨{ e0 with val := val }, ?_, h3, rfl⟩
      rw [hset]
      exact List.mem_iff_getElem.2 ⟨j, by simpa using (List.getElem?_eq_some_iff.1 h2).1, by simp⟩
end


theorem zero62 (w : World) : (zeroValue 62).run Try.prog w = .ok (.slice none 0 0) w := by kernel_rfl

def upd {α : Type} (F : Int × Int × Int → α) (k : Int × Int × Int) (v : α) : Int × Int × Int → α := fun k' => if k' = k then v else F k'
def nums (l : List Nat) : List Value := l.map fun i => .int .i64 (i : Nat)
theorem nums_length (l : List Nat) : (nums l).length = l.length := by simp [nums]

/-- block mb is a map from three bytes to lists of places -/
structure GrpW (w : World) (mb : Nat) (es : Array MapEntry) (clock : Nat) (F : Int × Int × Int → Value) (G : Int × Int × Int → List Nat) : Prop where
  block : w.heap[mb]? = some (.map es clock)
  stamped : Go.MapKept.Stamped es clock
  keys : ∀ x ∈ es.toList, ∃ k, okK k ∧ x.key = keyV k
  at' : ∀ k, okK k → (∃ e ∈ es.toList, e.key = keyV k ∧ e.val = F k) ∨ ((∀ e ∈ es.toList, e.key ≠ keyV k) ∧ F k = .slice none 0 0)
  own : ∀ k, okK k → w.ownsRow 0 3 1 (F k) (G k).length (nums (G k))
  apart : ∀ k k', okK k → okK k' → k ≠ k' → (F k).ownBlock = none ∨ (F k).ownBlock ≠ (F k').ownBlock

variable {w : World} {mb : Nat} {es : Array MapEntry} {clock : Nat} {F : Int × Int × Int → Value} {G : Int × Int × Int → List Nat}

theorem GrpW.keysOf (h : GrpW w mb es clock F G) : ∀ x ∈ es.toList, ∃ l, keyOf Try.prog 61 x.key = some l := fun x hx => by
  obtain ⟨k, hk, e⟩ := h.keys x hx
  rw [e]; exact keyOf_v hk

theorem GrpW.one (h : GrpW w mb es clock F G) {k : Int × Int × Int} (hk : okK k) {e0 : MapEntry} (h0 : e0 ∈ es.toList) (hk0 : e0.key = keyV k) : e0.val = F k := by
  rcases h.at' k hk with ⟨e, he, h1, h2⟩ | ⟨h1, _⟩
  · have hap := ((Go.MapKept.stamped_iff es clock).1 h.stamped).2.2
    have : e = e0 := by
      refine Classical.byContradiction fun hne => ?_
      obtain ⟨i, hi, hie⟩ := List.mem_iff_getElem.1 he
      obtain ⟨j, hj, hje⟩ := List.mem_iff_getElem.1 h0
      rcases Nat.lt_trichotomy i j with hlt | heq | hlt
      · have := (List.pairwise_iff_getElem.1 hap) i j hi hj hlt
        rw [hie, hje] at this; exact this (h1.trans hk0.symm)
      · subst heq; exact hne (hie.symm.trans hje)
      · have := (List.pairwise_iff_getElem.1 hap) j i hj hi hlt
        rw [hie, hje] at this; exact this (hk0.trans h1.symm)
    rw [← this]; exact h2
  · exact absurd hk0 (h1 e0 h0)

theorem GrpW.none_of (h : GrpW w mb es clock F G) {k : Int × Int × Int} (hk : okK k) (hno : ∀ x ∈ es.toList, x.key ≠ keyV k) : F k = .slice none 0 0 := by
  rcases h.at' k hk with ⟨e, he, h1, _⟩ | ⟨_, h2⟩
  · exact absurd h1 (hno e he)
  · exact h2

/-- the look-up -/
theorem GrpW.look (h : GrpW w mb es clock F G) {k : Int × Int × Int} (hk : okK k) (W : World) (hW : W.heap[mb]? = some (.map es clock)) : (Instr.lookup 54 (.map (some mb)) (keyV k) false).run Try.prog W = .ok (F k) W := by
  obtain ⟨l, hl⟩ := keyOf_v hk
  rcases law61.find W hl es.toList h.keysOf with ⟨h1, h2⟩ | ⟨j, e0, h1, h2, h3⟩
  · rw [h.none_of hk h2]
    simp [Instr.lookup, run_underlying Try.underlying54, Go.MapKept.run_getObj_map hW, law61.check W es.isEmpty hl, h1, Result.andThen]
  · rw [← h.one hk (List.mem_of_getElem? h2) h3]
    have hck : ∀ b, (Instr.checkKey b 10000 61 (keyV k)).run Try.prog W = .ok () W := fun b => law61.check W b hl
    simp [Instr.lookup, run_underlying Try.underlying54, Go.MapKept.run_getObj_map hW, hck, h1, Result.andThen]

theorem GrpW.lt (h : GrpW w mb es clock F G) : mb < w.heap.size := (Array.getElem?_eq_some_iff.1 h.block).1

theorem own_ne_map {w : World} {base mb : Nat} {es : Array MapEntry} {clock : Nat} {t : TypeId} {size m : Nat} {v : Value} {xs : List Value} (h : w.ownsRow base t size v m xs) (hb : w.heap[mb]? = some (.map es clock)) : v.ownBlock ≠ some mb := by
  intro q
  rcases h.2 with ⟨rfl, _⟩ | ⟨g, cap, cur, rfl, _, hg, _⟩
  · cases q
  · cases q; rw [hb] at hg; cases hg

theorem own_keep {w w' : World} {base : Nat} {t : TypeId} {size m : Nat} {v : Value} {xs : List Value} (h : w.ownsRow base t size v m xs) (hk : ∀ g, v.ownBlock = some g → g < w.heap.size → w'.heap[g]? = w.heap[g]?) : w'.ownsRow base t size v m xs := by
  refine ⟨h.1, ?_⟩
  rcases h.2 with h0 | ⟨g, cap, cur, rfl, hb, hg, r⟩
  · exact .inl h0
  · exact .inr ⟨g, cap, cur, rfl, hb, (hk g rfl (Array.getElem?_eq_some_iff.1 hg).1).trans hg, r⟩

/-- it looks at its own blocks alone -/
theorem GrpW.keep (h : GrpW w mb es clock F G) {w' : World} (hm : w'.heap[mb]? = w.heap[mb]?) (hk : ∀ k g, okK k → (F k).ownBlock = some g → g < w.heap.size → w'.heap[g]? = w.heap[g]?) : GrpW w' mb es clock F G :=
  ⟨hm.trans h.block, h.stamped, h.keys, h.at', fun k hok => own_keep (h.own k hok) (fun g => hk k g hok), h.apart⟩

/-- an entry, an append to its list, the store -/
theorem GrpW.step (h : GrpW w mb es clock F G) {k : Int × Int × Int} (hk : okK k) :
    ∃ (st : Nat) (es1 : Array MapEntry) (clock1 : Nat), (∀ W : World, W.heap[mb]? = some (.map es clock) → (Instr.mapEntry 54 (.map (some mb)) (keyV k)).run Try.prog W = .ok (.tuple #[F k, goInt st]) (Go.ChangeMaps.setBlock W mb (.map es1 clock1))) ∧
      ∀ v' : Value, ∃ es' clock', (∀ W : World, W.heap[mb]? = some (.map es1 clock1) → (Instr.entryStore 54 (.map (some mb)) (goInt st) v').run Try.prog W = .ok () (Go.ChangeMaps.setBlock W mb (.map es' clock'))) ∧
        ∀ (w3 : World) (xs : List Nat), w3.heap[mb]? = some (.map es' clock') → (∀ k' g, okK k' → (F k').ownBlock = some g → g < w.heap.size → (F k).ownBlock ≠ some g → g ≠ mb → w3.heap[g]? = w.heap[g]?) → w3.ownsRow 0 3 1 v' xs.length (nums xs) →
          (v'.ownBlock = (F k).ownBlock ∨ ∃ g, v'.ownBlock = some g ∧ w.heap.size ≤ g) → GrpW w3 mb es' clock' (upd F k v') (upd G k xs) := by
  obtain ⟨l, hl⟩ := keyOf_v hk
  obtain ⟨v0, st, es1, clock1, h1, h2, h3⟩ := entry_store (b := mb) law61 Try.underlying54 zero62 h.stamped h.keysOf hl
  have hv0 : v0 = F k := by
    rcases h2 with ⟨e0, he, hek, hev⟩ | ⟨hno, hz⟩
    · rw [hev]; exact h.one hk he hek
    · rw [hz, h.none_of hk hno]
  subst hv0
  refine ⟨st, es1, clock1, h1, fun v' => ?_⟩
  obtain ⟨es', clock', g1, g2, g3, g4, g5⟩ := h3 v'
  refine ⟨es', clock', g1, fun w3 xs hb hsame hown hloc => ⟨hb, g2, ?_, ?_, ?_, ?_⟩⟩
  · intro x hx
    rcases g3 x hx with ⟨hx, _⟩ | ⟨hx, _⟩
    · exact h.keys x hx
    · exact ⟨k, hk, hx⟩
  · intro k' hk'
    unfold upd
    by_cases e : k' = k
    · subst e
      rw [if_pos rfl]
      exact .inl g5
    · rw [if_neg e]
      rcases h.at' k' hk' with ⟨e0, he, hek, hev⟩ | ⟨hno, hz⟩
      · exact .inl ⟨e0, g4 e0 he (by rw [hek]; exact fun q => e (keyV_inj q)), hek, hev⟩
      · refine .inr ⟨fun x hx => ?_, hz⟩
        rcases g3 x hx with ⟨hx, _⟩ | ⟨hx, _⟩
        · exact hno x hx
        · rw [hx]; exact fun q => e (keyV_inj q).symm
  · intro k' hk'
    unfold upd
    by_cases e : k' = k
    · subst e
      rw [if_pos rfl, if_pos rfl]
      exact hown
    · rw [if_neg e, if_neg e]
      have ho := h.own k' hk'
      refine own_keep ho fun g hg hlt => hsame k' g hk' hg hlt ?_ ?_
      · intro q
        rcases h.apart k' k hk' hk e with h0 | h0
        · rw [hg] at h0; cases h0
        · exact h0 (hg.trans q.symm)
      · intro q; subst q; exact own_ne_map ho h.block hg
  · intro k1 k2 hk1 hk2 hne
    unfold upd
    by_cases e1 : k1 = k
    · subst e1
      rw [if_pos rfl, if_neg (fun q => hne q.symm)]
      rcases hloc with hq | ⟨g, hq, hge⟩
      · rw [hq]; exact h.apart k1 k2 hk1 hk2 hne
      · right; rw [hq]; intro q
        have := ((h.own k2 hk2).lt g q.symm).2; omega
    · rw [if_neg e1]
      by_cases e2 : k2 = k
      · subst e2
        rw [if_pos rfl]
        rcases hloc with hq | ⟨g, hq, hge⟩
        · rw [hq]; exact h.apart k1 k2 hk1 hk2 hne
        · right; rw [hq]; intro q
          have := ((h.own k1 hk1).lt g q).2; omega
      · rw [if_neg e2]
        exact h.apart k1 k2 hk1 hk2 hne

end Go.Proofs.Ytinmfkbppgjcpaa.Lz
