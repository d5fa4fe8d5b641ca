/- The plain pieces of a text. -/
set_option linter.unusedVariables false
namespace Go.Proofs.Ytinmfkbppgjcpaa.LzP

/-- how many from both places on are the same, at most m -/
def run (g : Nat → Int) (i j : Nat) : Nat → Nat
  | 0 => 0
  | m + 1 => if g i = g j then run g (i + 1) (j + 1) m + 1 else 0

theorem run_le (g : Nat → Int) : ∀ m i j, run g i j m ≤ m
  | 0, _, _ => Nat.le_refl _
  | m + 1, i, j => by
    unfold run; split
    · have := run_le g m (i + 1) (j + 1); omega
    · omega

theorem run_spec (g : Nat → Int) : ∀ m i j k, k ≤ m → (∀ t, t < k → g (i + t) = g (j + t)) → (k = m ∨ g (i + k) ≠ g (j + k)) → run g i j m = k
  | 0, i, j, k, h, _, _ => by simp [run]; omega
  | m + 1, i, j, 0, _, _, h => by
    unfold run; rw [if_neg]
    rcases h with h | h
    · omega
    · simpa using h
  | m + 1, i, j, k + 1, h1, h2, h3 => by
    unfold run
    rw [if_pos (by simpa using h2 0 (by omega))]
    rw [run_spec g m (i + 1) (j + 1) k (by omega) (fun t ht => by have := h2 (t + 1) (by omega); rw [show i + 1 + t = i + (t + 1) by omega, show j + 1 + t = j + (t + 1) by omega]; exact this)
      (by rcases h3 with h3 | h3
          · left; omega
          · right; rw [show i + 1 + k = i + (k + 1) by omega, show j + 1 + k = j + (k + 1) by omega]; exact h3)]

theorem run_same (g : Nat → Int) : ∀ m i j t, t < run g i j m → g (i + t) = g (j + t)
  | 0, i, j, t, h => by simp [run] at h
  | m + 1, i, j, t, h => by
    unfold run at h; split at h
    · cases t with
      | zero => simpa using ‹g i = g j›
      | succ t => have := run_same g m (i + 1) (j + 1) t (by omega); rw [show i + 1 + t = i + (t + 1) by omega, show j + 1 + t = j + (t + 1) by omega] at this; exact this
    · omega

theorem run_ge (g : Nat → Int) : ∀ m i j k, k ≤ m → (∀ t, t < k → g (i + t) = g (j + t)) → k ≤ run g i j m
  | _, i, j, 0, _, _ => Nat.zero_le _
  | 0, i, j, k + 1, h, _ => by omega
  | m + 1, i, j, k + 1, h1, h2 => by
    unfold run
    rw [if_pos (by simpa using h2 0 (by omega))]
    have := run_ge g m (i + 1) (j + 1) k (by omega) (fun t ht => by have := h2 (t + 1) (by omega); rw [show i + 1 + t = i + (t + 1) by omega, show j + 1 + t = j + (t + 1) by omega]; exact this)
    omega

/-- how many bytes from both places on are the same, at most 258, within n -/
def al (g : Nat → Int) (n i j : Nat) : Nat := run g i j (min 258 (n - j))

theorem al_le (g : Nat → Int) (n i j : Nat) : al g n i j ≤ 258 ∧ al g n i j ≤ n - j := by
  have := run_le g (min 258 (n - j)) i j; unfold al; omega

/-- the candidates of a place: below i, the nearest first, at most d -/
def cs (g : Nat → Int) (n j window : Nat) : Nat → Nat → List Nat
  | 0, _ => []
  | i + 1, d => if d = 0 ∨ window < j - i then [] else if al g n i j < 3 then cs g n j window i d else i :: cs g n j window i (d - 1)

def up (g : Nat → Int) (n j : Nat) (p : Nat × Nat) (i : Nat) : Nat × Nat := if p.1 < al g n i j then (al g n i j, j - i) else p

/-- the piece at a place: its length and its distance -/
def pc (g : Nat → Int) (n window depth j : Nat) : Nat × Nat := (cs g n j window j depth).foldl (up g n j) (0, 0)

def byt (g : Nat → Int) (j : Nat) (p : Nat × Nat) : Int := if p.1 = 0 then g j else 0

/-- the pieces from a place on -/
def ps (g : Nat → Int) (n window depth : Nat) : Nat → Nat → List (Nat × Nat × Int)
  | 0, _ => []
  | f + 1, j => if j < n then ((pc g n window depth j).1, (pc g n window depth j).2, byt g j (pc g n window depth j)) :: ps g n window depth f (j + max 1 (pc g n window depth j).1) else []

def pieces (g : Nat → Int) (n window depth : Nat) : List (Nat × Nat × Int) := ps g n window depth n 0

theorem ps_fuel (g : Nat → Int) (n window depth : Nat) : ∀ f f' j, n - j ≤ f → n - j ≤ f' → ps g n window depth f j = ps g n window depth f' j
  | 0, 0, j, _, _ => rfl
  | 0, f' + 1, j, h, _ => by
    unfold ps; rw [if_neg (by omega)]
  | f + 1, 0, j, _, h => by
    unfold ps; rw [if_neg (by omega)]
  | f + 1, f' + 1, j, h, h' => by
    unfold ps
    by_cases hj : j < n
    · rw [if_pos hj, if_pos hj, ps_fuel g n window depth f f' _ (by omega) (by omega)]
    · rw [if_neg hj, if_neg hj]

/-- the candidates: each is one -/
theorem cs_mem (g : Nat → Int) (n j window : Nat) : ∀ i d x, i ≤ j → x ∈ cs g n j window i d → x < i ∧ j - x ≤ window ∧ 3 ≤ al g n x j
  | 0, d, x, _, h => by simp [cs] at h
  | i + 1, d, x, hi, h => by
    unfold cs at h
    split at h
    · simp at h
    · rename_i hw
      split at h
      · have := cs_mem g n j window i d x (by omega) h; omega
      · rcases List.mem_cons.1 h with h | h
        · subst h; omega
        · have := cs_mem g n j window i (d - 1) x (by omega) h; omega

theorem cs_length (g : Nat → Int) (n j window : Nat) : ∀ i d, (cs g n j window i d).length ≤ d
  | 0, d => by simp [cs]
  | i + 1, d => by
    unfold cs; split
    · simp
    · split
      · exact cs_length g n j window i d
      · have := cs_length g n j window i (d - 1); simp; omega

/-- what holds of the greatest: it comes of a candidate, none is longer -/
theorem fold_up (g : Nat → Int) (n j : Nat) : ∀ (l : List Nat) (p : Nat × Nat), 
    ((l.foldl (up g n j) p = p) ∨ ∃ x ∈ l, l.foldl (up g n j) p = (al g n x j, j - x) ∧ p.1 < al g n x j) ∧ p.1 ≤ (l.foldl (up g n j) p).1 ∧ ∀ x ∈ l, al g n x j ≤ (l.foldl (up g n j) p).1
  | [], p => ⟨.inl rfl, Nat.le_refl _, by simp⟩
  | y :: l, p => by
    obtain ⟨h1, h2, h3⟩ := fold_up g n j l (up g n j p y)
    simp only [List.foldl_cons]
    have hu : (p.1 < al g n y j ∧ up g n j p y = (al g n y j, j - y)) ∨ (al g n y j ≤ p.1 ∧ up g n j p y = p) := by
      unfold up; split
      · exact .inl ⟨‹_›, rfl⟩
      · exact .inr ⟨by omega, rfl⟩
    rcases hu with ⟨hu1, hu2⟩ | ⟨hu1, hu2⟩
    · rw [hu2] at h1 h2 h3 ⊢
      refine ⟨.inr ?_, by simp at h2; omega, ?_⟩
      · rcases h1 with h1 | ⟨x, hx, h1, h4⟩
        · exact ⟨y, by simp, h1, hu1⟩
        · exact ⟨x, by simp [hx], h1, by simp at h4; omega⟩
      · intro x hx
        rcases List.mem_cons.1 hx with rfl | hx
        · simpa using h2
        · exact h3 x hx
    · rw [hu2] at h1 h2 h3 ⊢
      refine ⟨?_, h2, ?_⟩
      · rcases h1 with h1 | ⟨x, hx, h1⟩
        · exact .inl h1
        · exact .inr ⟨x, by simp [hx], h1⟩
      · intro x hx
        rcases List.mem_cons.1 hx with rfl | hx
        · omega
        · exact h3 x hx

/-- a piece: a byte, or a copy of a candidate -/
theorem pc_cases (g : Nat → Int) (n window depth j : Nat) : pc g n window depth j = (0, 0) ∨ ∃ x, x < j ∧ j - x ≤ window ∧ 3 ≤ al g n x j ∧ pc g n window depth j = (al g n x j, j - x) := by
  rcases (fold_up g n j (cs g n j window j depth) (0, 0)).1 with h | ⟨x, hx, h, _⟩
  · exact .inl h
  · have := cs_mem g n j window j depth x (Nat.le_refl _) hx
    exact .inr ⟨x, by omega, by omega, by omega, h⟩

theorem pc_fits (g : Nat → Int) (n window depth j : Nat) : (pc g n window depth j).1 ≤ 258 ∧ (pc g n window depth j).1 ≤ n - j ∧ (pc g n window depth j).2 ≤ j := by
  rcases pc_cases g n window depth j with h | ⟨x, h1, h2, h3, h⟩
  · rw [h]; simp
  · rw [h]; have := al_le g n x j; simp; omega


/-! ### The places of three bytes, the nearest first -/
def key (g : Nat → Int) (i : Nat) : Int × Int × Int := (g i, g (i + 1), g (i + 2))

theorem key_al (g : Nat → Int) (n x j : Nat) (h : j + 3 ≤ n) : key g x = key g j ↔ 3 ≤ al g n x j := by
  unfold key al
  constructor
  · intro e
    simp only [Prod.mk.injEq] at e
    refine run_ge g _ x j 3 (by omega) (fun t ht => ?_)
    rcases t with _ | _ | _ | t
    · exact e.1
    · exact e.2.1
    · exact e.2.2
    · omega
  · intro e
    have h0 := run_same g (min 258 (n - j)) x j 0 (by omega)
    have h1 := run_same g (min 258 (n - j)) x j 1 (by omega)
    have h2 := run_same g (min 258 (n - j)) x j 2 (by omega)
    simp only [Nat.add_zero] at h0
    rw [h0, h1, h2]

/-- the places below m that bear a key -/
def places (g : Nat → Int) (m : Nat) (k : Int × Int × Int) : List Nat := (List.range m).filter fun i => decide (key g i = k)

theorem places_succ (g : Nat → Int) (m : Nat) (k : Int × Int × Int) : places g (m + 1) k = if key g m = k then places g m k ++ [m] else places g m k := by
  unfold places
  rw [List.range_succ, List.filter_append]
  by_cases h : key g m = k <;> simp [h]

theorem places_lt (g : Nat → Int) (m : Nat) (k : Int × Int × Int) : ∀ x ∈ places g m k, x < m := by
  intro x hx
  unfold places at hx
  simp at hx
  exact hx.1

theorem places_length (g : Nat → Int) (m : Nat) (k : Int × Int × Int) : (places g m k).length ≤ m := by
  unfold places
  have := List.length_filter_le (fun i => decide (key g i = k)) (List.range m)
  simpa using this

/-- what comes of a list of places: the nearest first, within the window, at most d -/
def it (window j : Nat) : List Nat → Nat → List Nat
  | [], _ => []
  | _ :: _, 0 => []
  | x :: r, d + 1 => if window < j - x then [] else x :: it window j r d

theorem it_far (window j : Nat) : ∀ (l : List Nat) (d : Nat), (∀ x ∈ l, window < j - x) → it window j l d = []
  | [], _, _ => by simp [it]
  | _ :: _, 0, _ => by simp [it]
  | x :: r, d + 1, h => by simp [it, h x (by simp)]

theorem it_cs (g : Nat → Int) (n j window : Nat) (h : j + 3 ≤ n) : ∀ i d, i ≤ j → it window j (places g i (key g j)).reverse d = cs g n j window i d
  | 0, d, _ => by simp [places, it, cs]
  | i + 1, d, hi => by
    rw [places_succ]
    unfold cs
    by_cases hk : key g i = key g j
    · have ha := (key_al g n i j h).1 hk
      rw [if_pos hk, List.reverse_append]
      simp only [List.reverse_cons, List.reverse_nil, List.nil_append, List.singleton_append]
      cases d with
      | zero => simp [it]
      | succ d =>
        unfold it
        by_cases hw : window < j - i
        · rw [if_pos hw, if_pos (.inr hw)]
        · rw [if_neg hw, if_neg (by omega), if_neg (by omega), it_cs g n j window h i d (by omega)]; rfl
    · have ha : al g n i j < 3 := by
        have := mt (key_al g n i j h).2 hk; omega
      rw [if_neg hk]
      by_cases hd : d = 0
      · subst hd
        rw [if_pos (.inl rfl)]
        cases (places g i (key g j)).reverse <;> simp [it]
      · by_cases hw : window < j - i
        · rw [if_pos (.inr hw)]
          refine it_far window j _ d (fun x hx => ?_)
          have := places_lt g i _ x (List.mem_reverse.1 hx)
          omega
        · rw [if_neg (by omega), if_pos ha, it_cs g n j window h i d (by omega)]

/-- a place with fewer than three bytes has none -/
theorem cs_end (g : Nat → Int) (n j window : Nat) (h : n < j + 3) : ∀ i d, cs g n j window i d = []
  | 0, d => rfl
  | i + 1, d => by
    have ha : al g n i j < 3 := by have := al_le g n i j; omega
    unfold cs
    split
    · rfl
    · exact cs_end g n j window h i d


/-! ### Put together again -/
/-- a copy, byte by byte -/
def cp (d : Nat) : Nat → List Int → List Int
  | 0, out => out
  | k + 1, out => cp d k (out ++ [out.getD (out.length - d) 0])

/-- may a piece be, behind so many bytes? -/
def okp (m : Nat) (p : Int × Int × Int) : Prop := 3 ≤ p.1 ∧ p.1 ≤ 258 ∧ 1 ≤ p.2.1 ∧ p.2.1 ≤ 32768 ∧ p.2.1 ≤ m ∧ p.2.2 = 0
instance (m : Nat) (p : Int × Int × Int) : Decidable (okp m p) := by unfold okp; infer_instance

/-- the text that pieces say, behind out: or an error -/
def ex (most : Nat) : List (Int × Int × Int) → List Int → List Int × Int
  | [], out => (out, 0)
  | p :: r, out =>
    if p.1 = 0 ∧ p.2.1 = 0 then (if out.length = most then ([], 6) else ex most r (out ++ [p.2.2]))
    else if okp out.length p then (if (most : Int) - out.length < p.1 then ([], 6) else ex most r (cp p.2.1.toNat p.1.toNat out))
    else ([], 31)

theorem cp_length (d : Nat) : ∀ k out, (cp d k out).length = out.length + k
  | 0, out => rfl
  | k + 1, out => by unfold cp; rw [cp_length d k]; simp; omega

/-- a text's first m bytes -/
def txt (g : Nat → Int) (m : Nat) : List Int := (List.range m).map g
theorem txt_succ (g : Nat → Int) (m : Nat) : txt g (m + 1) = txt g m ++ [g m] := by simp [txt, List.range_succ]
theorem txt_length (g : Nat → Int) (m : Nat) : (txt g m).length = m := by simp [txt]
theorem txt_getD (g : Nat → Int) (m i : Nat) (h : i < m) : (txt g m).getD i 0 = g i := by simp [txt, List.getD, h]

theorem cp_txt (g : Nat → Int) (x d : Nat) (hd : 1 ≤ d) : ∀ k j, d ≤ j → (∀ t, t < k → g (j - d + t) = g (j + t)) → cp d k (txt g j) = txt g (j + k)
  | 0, j, _, _ => rfl
  | k + 1, j, hj, h => by
    unfold cp
    rw [txt_length, txt_getD g j _ (by omega)]
    have h0 := h 0 (by omega)
    simp only [Nat.add_zero] at h0
    rw [h0, ← txt_succ, cp_txt g x d hd k (j + 1) (by omega), show j + 1 + k = j + (k + 1) by omega]
    intro t ht
    have := h (t + 1) (by omega)
    rw [show j + 1 - d + t = j - d + (t + 1) by omega, show j + 1 + t = j + (t + 1) by omega]
    exact this

/-- pieces as the programs have them -/
def ints (l : List (Nat × Nat × Int)) : List (Int × Int × Int) := l.map fun p => ((p.1 : Int), (p.2.1 : Int), p.2.2)

theorem ex_ps (g : Nat → Int) (n window depth : Nat) (hw : window ≤ 32768) : ∀ f j, j ≤ n → n - j ≤ f → ex n (ints (ps g n window depth f j)) (txt g j) = (txt g n, 0)
  | 0, j, h1, h2 => by
    obtain rfl : j = n := by omega
    simp [ps, ints, ex]
  | f + 1, j, h1, h2 => by
    unfold ps
    by_cases hj : j < n
    · rw [if_pos hj]
      simp only [ints, List.map_cons]
      unfold ex
      rcases pc_cases g n window depth j with h | ⟨x, hx1, hx2, hx3, h⟩
      · rw [h]
        dsimp only
        rw [if_pos ⟨rfl, rfl⟩, txt_length, if_neg (by omega)]
        have := ex_ps g n window depth hw f (j + 1) (by omega) (by omega)
        unfold ints at this
        rw [show byt g j (0, 0) = g j from rfl, ← txt_succ]
        exact this
      · rw [h]
        have hal := al_le g n x j
        have hb : byt g j (al g n x j, j - x) = 0 := by unfold byt; rw [if_neg]; show ¬ al g n x j = 0; omega
        dsimp only
        rw [hb, if_neg (by omega), txt_length, if_pos (by unfold okp; dsimp only; omega), if_neg (by omega)]
        rw [show ((j - x : Nat) : Int).toNat = j - x by omega, show ((al g n x j : Nat) : Int).toNat = al g n x j by omega]
        rw [cp_txt g x (j - x) (by omega) _ j (by omega) (fun t ht => by
          rw [show j - (j - x) + t = x + t by omega]; exact run_same g _ x j t ht)]
        have := ex_ps g n window depth hw f (j + al g n x j) (by omega) (by omega)
        unfold ints at this
        rw [show max 1 (al g n x j) = al g n x j by omega]
        exact this
    · obtain rfl : j = n := by omega
      rw [if_neg hj]; simp [ints, ex]

theorem ex_pieces (g : Nat → Int) (n window depth : Nat) (hw : window ≤ 32768) : ex n (ints (pieces g n window depth)) [] = (txt g n, 0) := by
  have := ex_ps g n window depth hw n 0 (by omega) (by omega)
  exact this

/-- each piece is a byte, or a copy within the window -/
theorem ps_fits (g : Nat → Int) (n window depth : Nat) : ∀ f j, ∀ p ∈ ps g n window depth f j, (p.1 = 0 ∧ p.2.1 = 0) ∨ (3 ≤ p.1 ∧ p.1 ≤ 258 ∧ 1 ≤ p.2.1 ∧ p.2.1 ≤ window ∧ p.2.2 = 0)
  | 0, j, p, h => by simp [ps] at h
  | f + 1, j, p, h => by
    unfold ps at h
    split at h
    · rcases List.mem_cons.1 h with h | h
      · subst h
        rcases pc_cases g n window depth j with h | ⟨x, hx1, hx2, hx3, h⟩
        · rw [h]; exact .inl ⟨rfl, rfl⟩
        · rw [h]
          have hal := al_le g n x j
          refine .inr ⟨hx3, hal.1, by simp; omega, hx2, ?_⟩
          show byt _ _ _ = 0
          unfold byt; rw [if_neg]; show ¬ al g n x j = 0; omega
      · exact ps_fits g n window depth f _ p h
    · simp at h

/-- none could be longer -/
theorem cs_all (g : Nat → Int) (n j window : Nat) : ∀ i d x, i ≤ d → x < i → i ≤ j → j - x ≤ window → 3 ≤ al g n x j → x ∈ cs g n j window i d
  | 0, d, x, _, h, _, _, _ => by omega
  | i + 1, d, x, h1, h2, h3, h4, h5 => by
    unfold cs
    rw [if_neg (by omega)]
    by_cases hx : x = i
    · subst hx
      rw [if_neg (by omega)]; simp
    · split
      · exact cs_all g n j window i d x (by omega) (by omega) (by omega) h4 h5
      · exact List.mem_cons_of_mem _ (cs_all g n j window i (d - 1) x (by omega) (by omega) (by omega) h4 h5)

/-- the greatest of all distances 1 .. d -/
def most (g : Nat → Int) (n j : Nat) : Nat → Nat
  | 0 => 0
  | d + 1 => max (most g n j d) (al g n (j - (d + 1)) j)

theorem most_ge (g : Nat → Int) (n j : Nat) : ∀ d e, 1 ≤ e → e ≤ d → al g n (j - e) j ≤ most g n j d
  | 0, e, _, _ => by omega
  | d + 1, e, h1, h2 => by
    unfold most
    by_cases h : e = d + 1
    · subst h; omega
    · have := most_ge g n j d e h1 (by omega); omega
theorem most_of (g : Nat → Int) (n j : Nat) : ∀ d, most g n j d = 0 ∨ ∃ e, 1 ≤ e ∧ e ≤ d ∧ most g n j d = al g n (j - e) j
  | 0 => .inl rfl
  | d + 1 => by
    unfold most
    by_cases h : most g n j d ≤ al g n (j - (d + 1)) j
    · exact .inr ⟨d + 1, by omega, by omega, by omega⟩
    · rcases most_of g n j d with h0 | ⟨e, h1, h2, h3⟩
      · omega
      · exact .inr ⟨e, h1, by omega, by omega⟩

theorem pc_most (g : Nat → Int) (n window depth j : Nat) (h : j ≤ depth) : (pc g n window depth j).1 = if most g n j (min window j) < 3 then 0 else most g n j (min window j) := by
  have hf := fold_up g n j (cs g n j window j depth) (0, 0)
  have hge : ∀ e, 1 ≤ e → e ≤ min window j → 3 ≤ al g n (j - e) j → al g n (j - e) j ≤ (pc g n window depth j).1 := by
    intro e h1 h2 h3
    exact hf.2.2 (j - e) (cs_all g n j window j depth (j - e) h (by omega) (by omega) (by omega) h3)
  rcases pc_cases g n window depth j with h0 | ⟨x, hx1, hx2, hx3, h0⟩
  · rw [h0]
    rw [if_pos]
    rcases most_of g n j (min window j) with h1 | ⟨e, h1, h2, h3⟩
    · omega
    · by_cases h4 : 3 ≤ al g n (j - e) j
      · have := hge e h1 h2 h4; rw [h0] at this; simp at this; omega
      · omega
  · have h1 := most_ge g n j (min window j) (j - x) (by omega) (by omega)
    rw [show j - (j - x) = x by omega] at h1
    rw [if_neg (by omega)]
    rcases most_of g n j (min window j) with h2 | ⟨e, h2, h3, h4⟩
    · omega
    · have := hge e h2 h3 (by omega)
      rw [h0] at this ⊢
      simp only at this ⊢
      omega

/-! ### Without depth; a run -/
theorem pc_none (g : Nat → Int) (n window j : Nat) : pc g n window 0 j = (0, 0) := by
  have : cs g n j window j 0 = [] := by cases j <;> simp [cs]
  unfold pc; rw [this]; rfl

theorem ps_none (g : Nat → Int) (n window : Nat) : ∀ f j, n - j ≤ f → ps g n window 0 f j = (List.range (n - j)).map fun i => (0, 0, g (j + i))
  | 0, j, h => by simp [ps, show n - j = 0 by omega]
  | f + 1, j, h => by
    unfold ps
    by_cases hj : j < n
    · rw [if_pos hj, pc_none]
      rw [show n - j = (n - (j + 1)) + 1 by omega, List.range_succ_eq_map]
      simp only [List.map_cons, List.map_map]
      rw [show max 1 ((0, 0) : Nat × Nat).1 = 1 by simp, ps_none g n window f (j + 1) (by omega)]
      congr 1
      refine List.map_congr_left fun i _ => ?_
      show _ = (0, 0, g (j + (i + 1)))
      rw [show j + 1 + i = j + (i + 1) by omega]
    · rw [if_neg hj, show n - j = 0 by omega]; rfl

theorem run_const (g : Nat → Int) (c : Int) (hg : ∀ i, g i = c) : ∀ m i j, run g i j m = m
  | 0, _, _ => rfl
  | m + 1, i, j => by unfold run; rw [hg, hg, if_pos rfl, run_const g c hg m]

theorem pc_run (g : Nat → Int) (c : Int) (hg : ∀ i, g i = c) (n window j : Nat) (hj : 1 ≤ j) (hw : 1 ≤ window) : pc g n window 1 j = if n < j + 3 then (0, 0) else (min 258 (n - j), 1) := by
  by_cases h : n < j + 3
  · rw [if_pos h]
    unfold pc; rw [cs_end g n j window h]; rfl
  · rw [if_neg h]
    obtain ⟨i, rfl⟩ : ∃ i, j = i + 1 := ⟨j - 1, by omega⟩
    have ha : al g n i (i + 1) = min 258 (n - (i + 1)) := run_const g c hg _ _ _
    have hc : cs g n (i + 1) window (i + 1) 1 = [i] := by
      unfold cs
      rw [if_neg (by omega), if_neg (by omega)]
      cases i <;> simp [cs]
    unfold pc
    rw [hc]
    simp only [List.foldl_cons, List.foldl_nil, up]
    rw [ha, if_pos (by omega), show i + 1 - i = 1 by omega]

theorem pc_run0 (g : Nat → Int) (n window : Nat) : pc g n window 1 0 = (0, 0) := rfl

/-- how many pieces a run has from a place on -/
theorem ps_run (g : Nat → Int) (c : Int) (hg : ∀ i, g i = c) (n window : Nat) (hw : 1 ≤ window) : ∀ f j, 1 ≤ j → n - j ≤ f → 258 * (ps g n window 1 f j).length ≤ (n - j) + 2 * 258 ∧ ∀ p ∈ ps g n window 1 f j, 0 < p.1 → p.2.1 = 1
  | 0, j, h1, h2 => by simp [ps]
  | f + 1, j, h1, h2 => by
    unfold ps
    by_cases hj : j < n
    · rw [if_pos hj, pc_run g c hg n window j h1 hw]
      by_cases h : n < j + 3
      · rw [if_pos h]
        have hlen : ∀ f j, 1 ≤ j → n < j + 3 → (ps g n window 1 f j).length ≤ n - j ∧ ∀ p ∈ ps g n window 1 f j, 0 < p.1 → p.2.1 = 1 := by
          intro f
          induction f with
          | zero => intro j _ _; simp [ps]
          | succ f ih =>
            intro j h1 h
            unfold ps
            by_cases hj : j < n
            · rw [if_pos hj, pc_run g c hg n window j h1 hw, if_pos h]
              have := ih (j + 1) (by omega) (by omega)
              refine ⟨by simp; omega, ?_⟩
              intro p hp
              rcases List.mem_cons.1 hp with rfl | hp
              · simp
              · exact this.2 p hp
            · rw [if_neg hj]; simp
        have := hlen f (j + 1) (by omega) (by omega)
        refine ⟨by simp; omega, ?_⟩
        intro p hp
        rcases List.mem_cons.1 hp with rfl | hp
        · simp
        · exact this.2 p hp
      · rw [if_neg h]
        dsimp only
        have := ps_run g c hg n window hw f (j + max 1 (min 258 (n - j))) (by omega) (by omega)
        refine ⟨?_, ?_⟩
        · simp only [List.length_cons]
          by_cases h258 : 258 ≤ n - j
          · have h3 := this.1; rw [show max 1 (min 258 (n - j)) = 258 by omega] at h3 ⊢; omega
          · have hz : ps g n window 1 f (j + max 1 (min 258 (n - j))) = [] := by
              cases f with
              | zero => rfl
              | succ f => unfold ps; rw [if_neg (by omega)]
            rw [hz]; simp
        · intro p hp
          rcases List.mem_cons.1 hp with rfl | hp
          · simp
          · exact this.2 p hp
    · rw [if_neg hj]; simp

end Go.Proofs.Ytinmfkbppgjcpaa.LzP
