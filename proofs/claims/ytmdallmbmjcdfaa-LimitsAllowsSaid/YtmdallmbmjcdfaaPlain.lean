/- The plain laws of layer 20: buckets by keys, without any program. -/
set_option linter.unusedVariables false
namespace Go.Proofs.Ytmdallmbmjcdfaa.Lm

abbrev Bk := ByteArray × Int × Int
def last : Int := 1099511627776
def find (l : List Bk) (k : ByteArray) : Option (Int × Int) := (l.find? (fun e => decide (e.1 = k))).map (·.2)
def drop (l : List Bk) (k : ByteArray) : List Bk := l.eraseP (fun e => decide (e.1 = k))
structure LS where
  l : List Bk
  rate : Int
  full : Int
  keys : Int
  now : Int
def clock (s : LS) (now : Int) : Int := max s.now (min now last)
def left (s : LS) (k : ByteArray) (now : Int) : Int :=
  match find s.l k with
  | none => s.full
  | some (n, a) => min s.full (n + min (clock s now - a) s.full * s.rate)
def roomed (s : LS) (k : ByteArray) : List Bk := if find s.l k = none ∧ (s.l.length : Int) = s.keys then s.l.tail else s.l
def allow (s : LS) (k : ByteArray) (now : Int) : LS :=
  { s with l := drop (roomed s k) k ++ [(k, max (left s k now - 1) 0, clock s now)], now := clock s now }

structure Ok (s : LS) : Prop where
  rate1 : 1 ≤ s.rate
  rate2 : s.rate ≤ 1000000
  full1 : s.rate ≤ s.full
  full2 : s.full ≤ 2000000
  keys1 : 1 ≤ s.keys
  keys2 : s.keys ≤ 1000
  now1 : 0 ≤ s.now
  now2 : s.now ≤ last
  apart : s.l.Pairwise (fun x y => x.1 ≠ y.1)
  count : (s.l.length : Int) ≤ s.keys
  each : ∀ e ∈ s.l, 0 ≤ e.2.1 ∧ e.2.1 ≤ s.full ∧ 0 ≤ e.2.2 ∧ e.2.2 ≤ s.now

theorem find_none {l : List Bk} {k : ByteArray} : find l k = none ↔ ∀ e ∈ l, e.1 ≠ k := by
  simp [find]

theorem find_mem {l : List Bk} {k : ByteArray} {n a : Int} (h : find l k = some (n, a)) : (k, n, a) ∈ l := by
  unfold find at h
  cases hq : l.find? (fun e => decide (e.1 = k)) with
  | none => rw [hq] at h; cases h
  | some e =>
    rw [hq] at h
    have h1 := List.find?_some hq
    simp at h1 h
    have h2 := List.mem_of_find?_eq_some hq
    obtain ⟨e1, e2⟩ := e
    simp at h1 h
    subst h1; subst h
    exact h2

theorem find_at {l : List Bk} (hp : l.Pairwise (fun x y => x.1 ≠ y.1)) {e : Bk} (he : e ∈ l) : find l e.1 = some e.2 := by
  induction l with
  | nil => cases he
  | cons x l ih =>
    rw [List.pairwise_cons] at hp
    rcases List.mem_cons.1 he with rfl | he
    · simp [find]
    · have hx := hp.1 e he
      have := ih hp.2 he
      unfold find at *
      rw [List.find?_cons]
      simp [hx]
      simpa using this

theorem clock_bd {s : LS} (h : Ok s) (now : Int) : 0 ≤ clock s now ∧ s.now ≤ clock s now ∧ clock s now ≤ last := by
  have := h.now1; have := h.now2
  unfold clock
  omega

theorem left_bd {s : LS} (h : Ok s) (k : ByteArray) (now : Int) : 0 ≤ left s k now ∧ left s k now ≤ s.full := by
  have h1 := h.rate1; have h2 := h.full1
  unfold left
  cases hf : find s.l k with
  | none => simp; omega
  | some p =>
    obtain ⟨n, a⟩ := p
    have hm := h.each _ (find_mem hf)
    have hc := (clock_bd h now).2.1
    simp only at hm
    have hd : 0 ≤ min (clock s now - a) s.full := by omega
    have := Int.mul_nonneg hd (show (0 : Int) ≤ s.rate by omega)
    simp only
    omega

theorem drop_sub (l : List Bk) (k : ByteArray) : (drop l k).Sublist l := List.eraseP_sublist
theorem mem_drop {l : List Bk} (hp : l.Pairwise (fun x y => x.1 ≠ y.1)) {k : ByteArray} {e : Bk} : e ∈ drop l k ↔ e ∈ l ∧ e.1 ≠ k := by
  induction l with
  | nil => simp [drop]
  | cons x l ih =>
    rw [List.pairwise_cons] at hp
    unfold drop at *
    rw [List.eraseP_cons]
    by_cases hx : x.1 = k
    · simp only [hx, decide_true, cond_true, List.mem_cons]
      constructor
      · intro h; exact ⟨.inr h, fun q => hp.1 e h (by rw [hx, q])⟩
      · rintro ⟨h | h, h2⟩
        · subst h; exact absurd hx h2
        · exact h
    · simp only [hx, decide_false, cond_false, List.mem_cons, ih hp.2]
      constructor
      · rintro (h | ⟨h, h2⟩)
        · subst h; exact ⟨.inl rfl, hx⟩
        · exact ⟨.inr h, h2⟩
      · rintro ⟨h | h, h2⟩
        · exact .inl h
        · exact .inr ⟨h, h2⟩

theorem drop_none {l : List Bk} {k : ByteArray} (h : find l k = none) : drop l k = l := by
  unfold drop
  rw [find_none] at h
  exact List.eraseP_of_forall_not (by simpa using h)

theorem length_drop {l : List Bk} {k : ByteArray} (h : find l k ≠ none) : (drop l k).length + 1 = l.length := by
  unfold drop
  cases hq : l.find? (fun e => decide (e.1 = k)) with
  | none => exact absurd (by simp [find, hq]) h
  | some e =>
    have h1 := List.find?_some hq
    have h2 := List.mem_of_find?_eq_some hq
    rw [List.length_eraseP_of_mem h2 h1]
    have := List.length_pos_of_mem h2
    omega

theorem find_drop_same {l : List Bk} (hp : l.Pairwise (fun x y => x.1 ≠ y.1)) (k : ByteArray) : find (drop l k) k = none := by
  rw [find_none]
  intro e he
  exact ((mem_drop hp).1 he).2

theorem find_iff {l : List Bk} (hp : l.Pairwise (fun x y => x.1 ≠ y.1)) {k : ByteArray} {v : Int × Int} : find l k = some v ↔ (k, v) ∈ l :=
  ⟨fun h => by obtain ⟨n, a⟩ := v; exact find_mem h, fun h => find_at hp h⟩

theorem find_drop_other {l : List Bk} (hp : l.Pairwise (fun x y => x.1 ≠ y.1)) {k x : ByteArray} (hx : x ≠ k) : find (drop l k) x = find l x := by
  have hp' := hp.sublist (drop_sub l k)
  apply Option.ext
  intro v
  rw [find_iff hp', find_iff hp, mem_drop hp]
  exact ⟨fun h => h.1, fun h => ⟨h, hx⟩⟩

theorem find_append (l r : List Bk) (k : ByteArray) : find (l ++ r) k = (find l k).or (find r k) := by
  unfold find
  rw [List.find?_append]
  cases l.find? (fun e => decide (e.1 = k)) <;> simp

theorem find_one (x : ByteArray) (v : Int × Int) (k : ByteArray) : find [(x, v)] k = if x = k then some v else none := by
  unfold find
  by_cases h : x = k <;> simp [h]

theorem roomed_sub (s : LS) (k : ByteArray) : (roomed s k).Sublist s.l := by
  unfold roomed
  split
  · exact List.tail_sublist _
  · exact List.Sublist.refl _

theorem find_roomed (s : LS) (k : ByteArray) (h : Ok s) : find (roomed s k) k = find s.l k := by
  by_cases hk : find s.l k = none
  · rw [hk, find_none]
    rw [find_none] at hk
    exact fun e he => hk e ((roomed_sub s k).subset he)
  · unfold roomed
    rw [if_neg (fun q => hk q.1)]

theorem allow_ok {s : LS} (h : Ok s) (k : ByteArray) (now : Int) : Ok (allow s k now) := by
  have hl := left_bd h k now
  have hc := clock_bd h now
  have hr := roomed_sub s k
  have hpr := h.apart.sublist hr
  have hpd := hpr.sublist (drop_sub (roomed s k) k)
  refine ⟨h.rate1, h.rate2, h.full1, h.full2, h.keys1, h.keys2, hc.1, hc.2.2, ?_, ?_, ?_⟩
  · show (drop (roomed s k) k ++ [_]).Pairwise _
    refine List.pairwise_append.2 ⟨hpd, by simp, ?_⟩
    intro x hx y hy
    simp at hy; subst hy
    exact ((mem_drop hpr).1 hx).2
  · show (((drop (roomed s k) k ++ [_]).length : Nat) : Int) ≤ s.keys
    rw [List.length_append]
    have hcount := h.count
    have hk1 := h.keys1
    by_cases hf : find s.l k = none
    · have : (drop (roomed s k) k).length ≤ (roomed s k).length := (drop_sub _ _).length_le
      unfold roomed at *
      by_cases hq : find s.l k = none ∧ (s.l.length : Int) = s.keys
      · rw [if_pos hq] at this ⊢
        have : s.l.tail.length = s.l.length - 1 := List.length_tail
        have hq2 := hq.2
        simp at *
        omega
      · rw [if_neg hq] at this ⊢
        have : ¬ (s.l.length : Int) = s.keys := fun q => hq ⟨hf, q⟩
        simp
        omega
    · have hrr : roomed s k = s.l := by unfold roomed; rw [if_neg (fun q => hf q.1)]
      rw [hrr]
      have := length_drop hf
      simp
      omega
  · intro e he
    show 0 ≤ e.2.1 ∧ e.2.1 ≤ s.full ∧ 0 ≤ e.2.2 ∧ e.2.2 ≤ clock s now
    have he' : e ∈ drop (roomed s k) k ++ [(k, max (left s k now - 1) 0, clock s now)] := he
    rcases List.mem_append.1 he' with he | he
    · have := h.each e (hr.subset ((drop_sub _ _).subset he))
      omega
    · simp at he; subst he
      simp only
      have := h.rate1; have := h.full1
      omega

end Go.Proofs.Ytmdallmbmjcdfaa.Lm
