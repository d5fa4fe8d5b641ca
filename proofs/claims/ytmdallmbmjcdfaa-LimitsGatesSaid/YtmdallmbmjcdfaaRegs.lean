/- A region that draws its order: a head whose order is forced (but for moves), then a tail that only reads: one walk serves every order. -/
import Derived.WalkKit
import Derived.BigQuiet
set_option linter.unusedVariables false
namespace Go.Proofs.Ytmdallmbmjcdfaa
open Go.RowKit

section
variable {P : Program} {ops : Array Oper} {md : Region.Mode} {Q Qh : Exit → Act → World → Prop}

def isMove (o : Oper) : Bool := match o.op with | .move _ => true | _ => false

theorem isMove_spec {o : Oper} (h : isMove o = true) : ∃ x, o.op = .move x := by
  unfold isMove at h
  split at h
  · exact ⟨_, ‹_›⟩
  · cases h

/-- Is this list an order that the head may be walked in? -/
def ordB (md : Region.Mode) (ops : Array Oper) : List Nat → Array Bool → Bool
  | [], _ => true
  | i :: r, listed =>
    (match ops[i]? with
    | none => false
    | some o => (Region.ready md ops listed == [i]) || (isMove o && Region.free md ops listed i && (Region.ready md ops listed).contains i)) && ordB md ops r (listed.setIfInBounds i true)

def listedBy : List Nat → Array Bool → Array Bool
  | [], l => l
  | i :: r, l => listedBy r (l.setIfInBounds i true)

theorem move_not_asks {o : Oper} {a : Act} {w : World} {x : Operand} (h : o.op = .move x) : ¬ o.asks P a w := by
  intro ha
  have e2 : execOp a.eval o = (pure (Next.value (a.eval x)) : Sem Next) := by unfold execOp; rw [h]
  have e : ((pure (Next.value (a.eval x)) : Sem Next).runT P w #[]).2 = #[] := rfl
  have h1 := ha.1
  rw [e2, e] at h1
  simp at h1

theorem wpAny_order (hsel : Region.noSelect ops = true) (hp : ∀ c a d v w, Q (.panic c) (Act.put a d v) w → Q (.panic c) a w) (hx : ∀ e a w, e ≠ .normal → Qh e a w → Q e a w) :
    ∀ (ord : List Nat) (n : Nat) (listed : Array Bool) (a : Act) (w : World), ordB md ops ord listed = true →
      (∀ a w, Qh .normal a w → wpAny P md ops Q n (listedBy ord listed) a w) → wpList P ops Qh (ord.map fun i => ops.getD i default) a w → wpAny P md ops Q (n + ord.length) listed a w
  | [], n, listed, a, w, _, hn, h => hn a w h
  | i :: r, n, listed, a, w, hB, hn, h => by
    simp only [ordB, Bool.and_eq_true] at hB
    obtain ⟨hB1, hB2⟩ := hB
    cases ho : ops[i]? with
    | none => rw [ho] at hB1; simp at hB1
    | some o =>
      rw [ho] at hB1
      have hg : ops.getD i default = o := by simp [ho]
      simp only [List.map_cons, hg] at h
      have ih := wpAny_order hsel hp hx r n (listed.setIfInBounds i true)
      have hn' : ∀ a w, Qh .normal a w → wpAny P md ops Q n (listedBy r (listed.setIfInBounds i true)) a w := hn
      simp only [Bool.or_eq_true, Bool.and_eq_true, beq_iff_eq] at hB1
      rw [List.length_cons, ← Nat.add_assoc]
      have hlo : LetsOut Qh → LetsOut Q := fun ⟨a, w, q⟩ => ⟨a, w, hx _ _ _ (by simp) q⟩
      rcases hB1 with hB1 | ⟨⟨hm, hf⟩, hr⟩
      · refine wpAny_all hB1 (by simp) ?_
        intro j hj
        simp only [List.mem_singleton] at hj
        subst hj
        unfold wpOp
        simp only [ho]
        unfold wpList at h
        split
        · rename_i hw
          rw [if_pos hw] at h
          rcases h with h | ⟨h1, h2⟩
          · left
            have h2 : o.wp P a w (fun a w => wpAny P md ops Q (n + r.length) (listed.setIfInBounds j true) a w) Qh := Oper.wp_mono (fun a w q => ih a w hB2 hn' q) h
            unfold Oper.wp at *
            generalize (execOp a.eval o).run P w = res at *
            cases res with
            | ok nx w' =>
              cases nx <;> simp only [Oper.upon] at h2 ⊢ <;> first | exact h2 | skip
              case enter f args =>
                refine h2.mono fun e w'' he => ?_
                cases e with
                | returned v => exact he
                | panicked c => exact hx _ _ _ (by simp) he
                | outgrown => exact hlo he
            | halt x w' =>
              cases x <;> simp only [Oper.upon] at h2 ⊢ <;> first | exact h2 | exact hx _ _ _ (by simp) h2
          · exact .inr ⟨h1, hlo h2⟩
        · rename_i hw
          rw [if_neg hw] at h
          exact ih _ _ hB2 hn' h
      · obtain ⟨x, hxo⟩ := isMove_spec hm
        unfold wpList at h
        by_cases hw : Region.wanted o (yielded ops a.tmps) = true
        · rw [if_pos hw] at h
          rcases h with h | ⟨h1, _⟩
          · refine wpAny_take ho hsel hf hr (fun c a w q => hp c a _ _ w q) (.inl ⟨hw, fun w => BigFrame.run_move x hxo w⟩) ?_
            unfold Oper.wp at h
            rw [BigFrame.run_move x hxo w] at h
            exact ih _ _ hB2 hn' h
          · exact absurd h1 (move_not_asks hxo)
        · rw [if_neg hw] at h
          exact wpAny_take ho hsel hf hr (fun c a w q => hp c a _ _ w q) (.inr ⟨by simpa using hw, rfl⟩) (ih _ _ hB2 hn' h)

/-- what stands behind the head: the tail, walked quietly -/
def Tail (P : Program) (ops : Array Oper) (Q : Exit → Act → World → Prop) (rest : List Oper) : Exit → Act → World → Prop
  | .normal, a, w => wpQuiet P ops (fun w' => ∃ n, w' = w.drewN n) (fun a' => ∀ w', (∃ n, w' = w.drewN n) → Q .normal a' w') rest a
  | e, a, w => Q e a w

def headB (md : Region.Mode) (ops : Array Oper) (ord : List Nat) : Bool :=
  Region.noSelect ops && ordB md ops ord (Array.replicate ops.size false) && decide (ord.length ≤ ops.size) && Region.lexFrom md ops (ops.size - ord.length) ord.length (listedBy ord (Array.replicate ops.size false))

theorem wp_region_head {id : Nat} {l : List Oper} {a : Act} {w : World} (ord : List Nat) (hm : P.follows .mixedOrders = true) (hB : headB .any l.toArray ord = true)
    (hp : ∀ c a d v w, Q (.panic c) (Act.put a d v) w → Q (.panic c) a w)
    (h : wpList P l.toArray (Tail P l.toArray Q (l.drop ord.length)) (ord.map fun i => l.toArray.getD i default) a w.drew) : (Code.region id l.toArray true).wp P Q a w := by
  simp only [headB, Bool.and_eq_true, decide_eq_true_eq] at hB
  obtain ⟨⟨⟨h1, h2⟩, h3⟩, h4⟩ := hB
  refine wp_region_any hm ?_
  have := wpAny_order (P := P) (Q := Q) (Qh := Tail P l.toArray Q (l.drop ord.length)) h1 hp (fun e a w hne q => by cases e <;> first | exact absurd rfl hne | exact q) ord (l.toArray.size - ord.length) (Array.replicate l.toArray.size false) a w.drew h2 ?_ h
  · rw [Nat.sub_add_cancel h3] at this
    exact this
  · intro a' w' hq
    refine wpAny_of_quiet (C := fun w'' => ∃ n, w'' = w'.drewN n) (Q := fun a'' => ∀ w'', (∃ n, w'' = w'.drewN n) → Q .normal a'' w'') (fun _ w'' hw'' q => q w'' hw'') _ _ _ _ ⟨0, rfl⟩ ?_
    have hl : (l.drop ord.length).length = l.toArray.size - ord.length := by simp
    have := wpAnyQ_lex (P := P) (C := fun w'' => ∃ n, w'' = w'.drewN n) (md := .any) (Q := fun a'' => ∀ w'', (∃ n, w'' = w'.drewN n) → Q .normal a'' w'') h1 (l.drop ord.length) ord.length (listedBy ord (Array.replicate l.toArray.size false)) a'
      (fun j => by simp) (by rw [hl]; exact h4) hq
    rw [hl] at this
    exact this

/-- the same, the head's operations written out -/
theorem wp_region_head_lit {id : Nat} {l : List Oper} {a : Act} {w : World} (ord : List Nat) (ls rest : List Oper) (hm : P.follows .mixedOrders = true) (hB : headB .any l.toArray ord = true)
    (hl : ord.map (fun i => l.toArray.getD i default) = ls) (hr : l.drop ord.length = rest) (hp : ∀ c a d v w, Q (.panic c) (Act.put a d v) w → Q (.panic c) a w)
    (h : wpList P l.toArray (Tail P l.toArray Q rest) ls a w.drew) : (Code.region id l.toArray true).wp P Q a w := by
  subst hl; subst hr
  exact wp_region_head ord hm hB hp h

theorem tail_normal {Q : Exit → Act → World → Prop} {rest : List Oper} {a : Act} {w : World} (h : wpQuiet P ops (fun w' => ∃ n, w' = w.drewN n) (fun a' => ∀ w', (∃ n, w' = w.drewN n) → Q .normal a' w') rest a) : Tail P ops Q rest .normal a w := h

theorem tail_at {Q : Exit → Act → World → Prop} {rest : List Oper} {a : Act} {w : World} (h : ∀ W, Hid (W = w) → wpQuiet P ops (fun w' => ∃ n, w' = W.drewN n) (fun a' => ∀ w', (∃ n, w' = W.drewN n) → Q .normal a' w') rest a) : Tail P ops Q rest .normal a w := h w rfl
end
end Go.Proofs.Ytmdallmbmjcdfaa
