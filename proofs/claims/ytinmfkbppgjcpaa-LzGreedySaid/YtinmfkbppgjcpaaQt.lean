/- A region that draws its order, inside a fence: a head that only reads, then a tail whose order is forced: one walk serves every order. -/
import Derived.StillTail
import Derived.Sort.QuietThIn
import Derived.TacticsIn
set_option linter.unusedVariables false
namespace Go.Proofs.Ytinmfkbppgjcpaa

section
variable {F : Fence} {n : Nat} {P : Program} {C : World → Prop} {md : Region.Mode}

/-- the tail, one by one -/
def forcedB (md : Region.Mode) (ops : Array Oper) : Nat → Nat → Array Bool → Bool
  | 0, _, listed => (Region.ready md ops listed).isEmpty
  | m + 1, k, listed => (Region.ready md ops listed == [k]) && forcedB md ops m (k + 1) (listed.setIfInBounds k true)

theorem tail_forced {ops : Array Oper} {Q : Exit → Act → World → Prop} : ∀ (l : List Oper) (k : Nat) (listed : Array Bool) (a : Act) (w : World), (∀ j, l[j]? = ops[k + j]?) → forcedB md ops l.length k listed = true →
    wpListIn F n P ops Q l a w → wpAnyIn F n P md ops Q l.length listed a w
  | [], k, listed, a, w, hl, hB, h => ⟨by simpa [forcedB] using hB, h⟩
  | o :: l, k, listed, a, w, hl, hB, h => by
    have h0 : ops[k]? = some o := by simpa using (hl 0).symm
    simp only [List.length_cons, forcedB, Bool.and_eq_true, beq_iff_eq] at hB
    refine wpAnyIn_all hB.1 (by simp) ?_
    intro i hi
    simp only [List.mem_singleton] at hi
    subst hi
    unfold wpListIn at h
    unfold wpOpIn
    simp only [h0]
    have ih := tail_forced (ops := ops) (Q := Q) l (i + 1) (listed.setIfInBounds i true)
    have hl' : ∀ j, l[j]? = ops[i + 1 + j]? := fun j => by have := hl (j + 1); simpa [Nat.add_assoc, Nat.add_comm 1 j] using this
    split
    · rename_i hw; rw [if_pos hw] at h
      exact Oper.wpIn_mono (fun a w q => ih a w hl' hB.2 q) h
    · rename_i hw; rw [if_neg hw] at h
      exact ⟨h.1, ih _ _ hl' hB.2 h.2⟩

/-- how many are not listed yet -/
def left (l : List Bool) : Nat := (l.filter (! ·)).length

theorem left_zero {l : List Bool} (h : left l = 0) : l = List.replicate l.length true := by
  induction l with
  | nil => rfl
  | cons x l ih =>
    cases x with
    | true => simp only [left, List.filter_cons] at h ih; simp at h; rw [List.length_cons, List.replicate_succ, ← ih (by simpa using h)]
    | false => simp [left] at h
theorem left_pos {l : List Bool} (h : 0 < left l) : ∃ i : Nat, i < l.length ∧ l[i]? = some false := by
  induction l with
  | nil => simp [left] at h
  | cons x l ih =>
    cases x with
    | true =>
      obtain ⟨i, h1, h2⟩ := ih (by simpa [left] using h)
      exact ⟨i + 1, by simp; omega, by simpa using h2⟩
    | false => exact ⟨0, by simp, rfl⟩
theorem left_set {l : List Bool} {i : Nat} (h : l[i]? = some false) : left (l.set i true) + 1 = left l := by
  induction l generalizing i with
  | nil => simp at h
  | cons x l ih =>
    cases i with
    | zero => simp at h; subst h; simp [left]
    | succ i =>
      have := ih (by simpa using h)
      cases x <;> simp [left] at * <;> omega

def pad (l : List Bool) (m : Nat) : Array Bool := (l ++ List.replicate m false).toArray

/-- the head's edges and guards stay within it -/
def closedB (ops : Array Oper) (p : Nat) : Bool := (List.range p).all fun i => match ops[i]? with
  | none => false
  | some o => (o.after.all fun e => decide (e.on < i)) && (match o.guard with | none => true | some (j, _) => decide (j < p))

theorem take_get {ops : Array Oper} {p i : Nat} (hi : i < p) : (ops.toList.take p).toArray[i]? = ops[i]? := by
  simp [List.getElem?_take_of_lt hi]

theorem wanted_take {ops : Array Oper} {p : Nat} {o : Oper} (ho : match o.guard with | none => True | some (j, _) => j < p) (t : Array Value) : Region.wanted o (yielded (ops.toList.take p).toArray t) = Region.wanted o (yielded ops t) := by
  unfold Region.wanted
  cases hg : o.guard with
  | none => rfl
  | some x =>
    obtain ⟨j, b⟩ := x
    rw [hg] at ho
    dsimp only at ho ⊢
    unfold yielded
    rw [take_get ho]

theorem head_quiet {ops : Array Oper} {p g : Nat} {Q' : Act → Prop} {Q : Exit → Act → World → Prop} (hro : F.round = none) (hcl : closedB ops p = true) (hs : Region.sinkB md ops p = true) (hc : Region.chainB md ops p = true) (hp : p < ops.size)
    (hend : ∀ a w, C w → Q' a → wpAnyIn F n P md ops Q g (pad (List.replicate p true) (ops.size - p)) a w) :
    ∀ (fuel : Nat) (l : List Bool) (a : Act) (w : World), C w → l.length = p → left l = fuel → HeadInv md ops p (pad l (ops.size - p)) →
      wpAnyQIn F n P md (ops.toList.take p).toArray C Q' fuel l.toArray a → wpAnyIn F n P md ops Q (fuel + g) (pad l (ops.size - p)) a w
  | 0, l, a, w, hw, hl, hf, inv, h => by
    rw [Nat.zero_add, left_zero hf, hl]
    exact hend a w hw h.2
  | fuel + 1, l, a, w, hw, hl, hf, inv, h => by
    rw [show fuel + 1 + g = (fuel + g) + 1 by omega]
    have hget : ∀ i, i < p → ∀ d, (pad l (ops.size - p)).getD i d = l.toArray.getD i d := fun i hi d => by
      simp [pad, List.getElem?_append_left (show i < l.length by omega)]
    obtain ⟨u, hu1, hu2⟩ := left_pos (l := l) (by omega)
    have hun : (pad l (ops.size - p)).getD u true = false := by rw [hget u (by omega)]; simp [hu2]
    have hlow : ∀ i, i ∈ Region.ready md ops (pad l (ops.size - p)) → i < p := fun i hi => by
      rcases Nat.lt_or_ge i p with h' | h'
      · exact h'
      · exact absurd hi (tail_waits hs hc hp inv _ u rfl (by omega) hun i h')
    have hclo : ∀ i o, i < p → ops[i]? = some o → (∀ e ∈ o.after, e.on < i) ∧ (match o.guard with | none => True | some (j, _) => j < p) := fun i o hi ho => by
      have := List.all_eq_true.1 hcl i (List.mem_range.2 hi)
      simp only [ho, Bool.and_eq_true] at this
      refine ⟨fun e he => ?_, ?_⟩
      · have := Array.all_eq_true'.1 this.1 e he; simpa using this
      · cases hg : o.guard with
        | none => trivial
        | some x => obtain ⟨j, b⟩ := x; rw [hg] at this; simpa using this.2
    have hready : ∀ i, i < p → (i ∈ Region.ready md ops (pad l (ops.size - p)) ↔ i ∈ Region.ready md (ops.toList.take p).toArray l.toArray) := fun i hi => by
      rw [mem_ready, mem_ready, hget i hi, take_get hi]
      refine and_congr_right fun _ => exists_congr fun o => and_congr_right fun ho => ?_
      constructor
      · intro hh e he hb
        have := hh e he hb
        rwa [hget e.on (by have := (hclo i o hi ho).1 e he; omega)] at this
      · intro hh e he hb
        have := hh e he hb
        rwa [hget e.on (by have := (hclo i o hi ho).1 e he; omega)]
    -- one is ready
    have hne : Region.ready md ops (pad l (ops.size - p)) ≠ [] := by
      have hmin : ∀ v, v < p → l[v]? = some false → ∃ i, i < p ∧ i ∈ Region.ready md (ops.toList.take p).toArray l.toArray := by
        intro v
        induction v using Nat.strongRecOn with
        | _ v ih =>
          intro hv hlv
          obtain ⟨o, ho⟩ : ∃ o, ops[v]? = some o := ⟨ops[v], Array.getElem?_eq_getElem (by omega)⟩
          by_cases hall : ∀ e ∈ o.after, Region.binds md e = true → l.toArray.getD e.on false = true
          · exact ⟨v, hv, mem_ready.2 ⟨by simp [hlv], o, by rw [take_get hv]; exact ho, hall⟩⟩
          · obtain ⟨e, he1⟩ := Classical.not_forall.1 hall
            obtain ⟨he, he2⟩ := Classical.not_imp.1 he1
            obtain ⟨hb, he3⟩ := Classical.not_imp.1 he2
            have hlt := (hclo v o hv ho).1 e he
            refine ih e.on hlt (by omega) ?_
            have hel : e.on < l.length := by omega
            rw [List.getElem?_eq_getElem hel]
            simp [List.getElem?_eq_getElem hel] at he3
            rw [he3]
      obtain ⟨i, hi, hr⟩ := hmin u (by omega) hu2
      intro h0
      have := (hready i hi).2 hr
      rw [h0] at this; cases this
    refine ⟨fun h0 => absurd h0 hne, fun i hi => ?_⟩
    have hip := hlow i hi
    have hr' := (hready i hip).1 hi
    have hq := h.2 i hr'
    have hli : l[i]? = some false := by
      have := (mem_ready.1 hr').1
      have hil : i < l.length := by omega
      rw [List.getElem?_eq_getElem hil]
      simp [List.getElem?_eq_getElem hil] at this
      rw [this]
    have hset : (pad l (ops.size - p)).setIfInBounds i true = pad (l.set i true) (ops.size - p) := by
      simp [pad, List.set_append_left _ _ (show i < l.length by omega)]
    rw [hset]
    have hq2 : qOpIn F n P ops C i (wpAnyQIn F n P md (ops.toList.take p).toArray C Q' fuel (l.toArray.setIfInBounds i true)) a := by
      unfold qOpIn at hq ⊢
      rw [take_get hip] at hq
      obtain ⟨o, ho⟩ : ∃ o, ops[i]? = some o := ⟨ops[i], Array.getElem?_eq_getElem (by omega)⟩
      simp only [ho] at hq ⊢
      rw [wanted_take (hclo i o hip ho).2] at hq
      exact hq
    refine wpOpIn_of_qOpIn hro hw (fun a' w' hw' hk => ?_) hq2
    refine head_quiet hro hcl hs hc hp hend fuel (l.set i true) a' w' hw' (by simpa using hl) (by have := left_set hli; omega) ?_ ?_
    · rw [← hset]; exact inv.set hi hip
    · simpa using hk

/-- the conditions -/
def qtB (md : Region.Mode) (ops : Array Oper) (p : Nat) : Bool :=
  closedB ops p && Region.sinkB md ops p && Region.chainB md ops p && decide (p < ops.size) && Region.noSelect (ops.toList.take p).toArray &&
    Region.lexFrom md (ops.toList.take p).toArray p 0 (Array.replicate p false) && forcedB md ops (ops.size - p) p (pad (List.replicate p true) (ops.size - p))

theorem wpIn_region_qt {id : Nat} {Q : Exit → Act → World → Prop} {a : Act} {w : World} {l : List Oper} (p : Nat) (hro : F.round = none) (hm : P.follows .mixedOrders = true) (hB : qtB .any l.toArray p = true)
    (h : wpQuietIn F n P (l.take p).toArray (fun w' => ∃ k, w' = w.drewN k) (fun a' => ∀ w', (∃ k, w' = w.drewN k) → wpListIn F n P l.toArray Q (l.drop p) a' w') (l.take p) a) : (Code.region id l.toArray true).wpIn F n P Q a w := by
  simp only [qtB, Bool.and_eq_true, decide_eq_true_eq] at hB
  obtain ⟨⟨⟨⟨⟨⟨h1, h2⟩, h3⟩, h4⟩, h5⟩, h6⟩, h7⟩ := hB
  refine wpIn_region_any hm ?_
  have hlen : (l.take p).length = p := by rw [List.length_take]; simp at h4; omega
  have hq := wpAnyQIn_lex (F := F) (n := n) (P := P) (C := fun w' => ∃ k, w' = w.drewN k) (md := .any) h5 (l.take p) 0 (Array.replicate p false) a (fun j => by simp) (by rw [hlen]; exact h6) h
  rw [hlen] at hq
  have hpad : pad (List.replicate p false) (l.toArray.size - p) = Array.replicate l.toArray.size false := by
    simp only [pad, List.replicate_append_replicate]
    rw [show p + (l.toArray.size - p) = l.toArray.size by omega]
    simp
  have key := head_quiet (F := F) (n := n) (P := P) (C := fun w' => ∃ k, w' = w.drewN k) (md := .any) (ops := l.toArray) (p := p) (g := l.toArray.size - p) (Q := Q) hro h1 h2 h3 h4
    (Q' := fun a' => ∀ w', (∃ k, w' = w.drewN k) → wpListIn F n P l.toArray Q (l.drop p) a' w') ?_ p (List.replicate p false) a w.drew ⟨1, rfl⟩ (by simp) (by simp [left]) ?_ (by simpa using hq)
  · rw [hpad, show p + (l.toArray.size - p) = l.toArray.size by omega] at key
    exact key
  · intro a' w' hw' hh
    have hdl : (l.drop p).length = l.toArray.size - p := by simp
    have := tail_forced (F := F) (n := n) (P := P) (md := .any) (ops := l.toArray) (Q := Q) (l.drop p) p (pad (List.replicate p true) (l.toArray.size - p)) a' w' (fun j => by simp) (by rw [hdl]; exact h7) (hh w' hw')
    rwa [hdl] at this
  · rw [hpad]
    refine ⟨by simp, fun j oj hj hl => ?_, fun t ht ht' => ?_⟩
    · rw [getD_replicate_false] at hl; cases hl
    · rw [Array.getD_eq_getD_getElem?]; simp at ht' ⊢; simp [ht']
end
end Go.Proofs.Ytinmfkbppgjcpaa
