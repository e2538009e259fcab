/-
  The symbolic executor Lx, part 11: regions whose order is drawn. Operations taken early, each with what it asks of the world.
-/
import Derived.Test.YtnehadffbelhnaaGreatDoorLx10
import Derived.OrdersHeld
namespace Go.Lx
open Go.RowKit
section
variable {P : Program} {ops : Array Oper} {Q : Exit → Act → World → Prop} {anc : Nat → Nat → Bool}

abbrev Held := List (Nat × (World → Prop))

/-- Whatever order is picked from here on; what is held stays true behind every operation that does not wait for its holder. -/
def wpAnyL (P : Program) (ops : Array Oper) (Q : Exit → Act → World → Prop) (anc : Nat → Nat → Bool) : Held → Nat → Array Bool → Act → World → Prop
  | _, 0, listed, a, w => Region.ready .any ops listed = [] ∧ Q .normal a w
  | L, fuel + 1, listed, a, w =>
    (Region.ready .any ops listed = [] → Q .normal a w) ∧
    ∀ j ∈ Region.ready .any ops listed, wpOp P ops Q j (fun a' w' => (∀ p ∈ L, anc j p.1 = false → p.2 w → p.2 w') ∧ wpAnyL P ops Q anc (L.filter fun p => !anc j p.1) fuel (listed.setIfInBounds j true) a' w') a w

theorem wpAnyL_mono : ∀ (fuel : Nat) (listed : Array Bool) (a : Act) (w : World) {L L' : Held}, (∀ p ∈ L, p ∈ L') →
    wpAnyL P ops Q anc L' fuel listed a w → wpAnyL P ops Q anc L fuel listed a w
  | 0, _, _, _, _, _, _, h => h
  | fuel + 1, _, _, _, L, L', hL, h => ⟨h.1, fun j hj => wpOp_mono (fun a' w' h' => ⟨fun p hp ha hw => h'.1 p (hL p hp) ha hw,
      wpAnyL_mono fuel _ a' w' (fun p hp => by
        rw [List.mem_filter] at hp ⊢
        exact ⟨hL p hp.1, hp.2⟩) h'.2⟩) (h.2 j hj)⟩

theorem wpAny_of_L : ∀ (fuel : Nat) (listed : Array Bool) (a : Act) (w : World) {L : Held}, wpAnyL P ops Q anc L fuel listed a w → wpAny P .any ops Q fuel listed a w
  | 0, _, _, _, _, h => h
  | fuel + 1, _, _, _, _, h => ⟨h.1, fun i hi => wpOp_mono (fun a' w' h' => wpAny_of_L fuel _ a' w' h'.2) (h.2 i hi)⟩

def AncOk (ops : Array Oper) (anc : Nat → Nat → Bool) : Prop :=
  ∀ j i, anc j i = true → ∃ o, ops[j]? = some o ∧ ∃ e ∈ o.after, Region.binds .any e = true ∧ e.on < j ∧ (e.on = i ∨ anc e.on i = true)
def Closed (ops : Array Oper) (listed : Array Bool) : Prop :=
  ∀ (j : Nat) (o : Oper), listed.getD j false = true → ops[j]? = some o → ∀ e ∈ o.after, Region.binds .any e = true → listed.getD e.on false = true

theorem anc_false (ha : AncOk ops anc) {listed : Array Bool} (hc : Closed ops listed) {i : Nat} (hi : listed.getD i false = false) : ∀ (j : Nat),
    (∀ o, ops[j]? = some o → ∀ e ∈ o.after, Region.binds .any e = true → listed.getD e.on false = true) → anc j i = false := by
  intro j
  induction j using Nat.strongRecOn with
  | _ j ih =>
    intro hj
    cases h : anc j i
    · rfl
    · obtain ⟨o, ho, e, he, hb, hlt, h1⟩ := ha j i h
      have hl := hj o ho e he hb
      rcases h1 with rfl | h1
      · rw [hi] at hl; cases hl
      · rw [ih e.on hlt (fun o' ho' e' he' hb' => hc _ o' hl ho' e' he' hb')] at h1; cases h1

theorem Closed.set {listed : Array Bool} (hc : Closed ops listed) {i : Nat} (hi : i ∈ Region.ready .any ops listed) : Closed ops (listed.setIfInBounds i true) := by
  intro j o hj ho e he hb
  obtain ⟨h0, oi, hoi, hall⟩ := mem_ready.1 hi
  by_cases hji : i = j
  · subst hji
    rw [ho] at hoi; cases hoi
    exact getD_set_true (hall e he hb)
  · rw [getD_set_ne false hji] at hj
    exact getD_set_true (hc j o hj ho e he hb)

theorem ready_unlisted {listed : Array Bool} {i : Nat} (hi : i ∈ Region.ready .any ops listed) : listed.getD i false = false := by
  have h0 := (mem_ready.1 hi).1
  rcases Nat.lt_or_ge i listed.size with h' | h'
  · simp [h'] at h0 ⊢; exact h0
  · simp [Array.getElem?_eq_none h']

theorem wpAnyL_first {i : Nat} {oi : Oper} {v : Value} {S : World → Prop} (hanc : AncOk ops anc) (hi : ops[i]? = some oi)
    (hsel : ∀ (j : Nat) (o : Oper) cs b, ops[j]? = some o → o.op ≠ .select cs b)
    (hQ : ∀ c a w, Q (.panic c) (a.put oi.dst v) w → Q (.panic c) a w) :
    ∀ (fuel : Nat) (listed : Array Bool) (a : Act) (w : World) {L : Held}, Closed ops listed →
      (∀ j oj, ops[j]? = some oj → j ≠ i → listed.getD j true = false → (∀ e ∈ oj.after, Region.binds .any e = true → e.on ≠ i) → oi.apart ops oj = true) →
      i ∈ Region.ready .any ops listed → YieldsIf P ops S oi v a → S w →
      wpAnyL P ops Q anc ((i, S) :: L) fuel (listed.setIfInBounds i true) (a.put oi.dst v) w → wpAnyL P ops Q anc L (fuel + 1) listed a w := by
  intro fuel
  induction fuel with
  | zero =>
    intro listed a w L _ _ hr hy hS H
    refine ⟨fun h => (by rw [h] at hr; cases hr), fun j hj => ?_⟩
    by_cases hji : j = i
    · subst hji; exact hy.wpOp hi hS ⟨fun p _ _ hw => hw, H⟩
    · have := ready_mono hj hji
      rw [H.1] at this
      cases this
  | succ fuel ih =>
    intro listed a w L hcl hfree hr hy hS H
    refine ⟨fun h => (by rw [h] at hr; cases hr), fun j hj => ?_⟩
    by_cases hji : j = i
    · subst hji; exact hy.wpOp hi hS ⟨fun p _ _ hw => hw, wpAnyL_mono _ _ _ _ (fun p hp => .tail _ (List.mem_filter.1 hp).1) H⟩
    · have h1 := H.2 j (ready_mono hj hji)
      obtain ⟨hjun, oj, hoj, hall⟩ := mem_ready.1 hj
      have hnot : ∀ e ∈ oj.after, Region.binds .any e = true → e.on ≠ i := fun e he hb heq => by
        have h1 := hall e he hb
        rw [heq, ready_unlisted hr] at h1; cases h1
      have h2 := wpOp_putIf hoj (hfree j oj hoj hji hjun hnot) (fun cs b => hsel i oi cs b hi) (fun cs b => hsel j oj cs b hoj) hQ hy h1
      have hfree' : ∀ k ok, ops[k]? = some ok → k ≠ i → (listed.setIfInBounds j true).getD k true = false →
          (∀ e ∈ ok.after, Region.binds .any e = true → e.on ≠ i) → oi.apart ops ok = true := fun k ok hk hki hun hno => by
        refine hfree k ok hk hki ?_ hno
        by_cases hjk : j = k
        · subst hjk; exact hjun
        · rw [getD_set_ne true hjk] at hun; exact hun
      have hji' : anc j i = false := anc_false hanc hcl (ready_unlisted hr) j (fun o ho e he hb => by
        rw [hoj] at ho; cases ho; exact hall e he hb)
      refine wpOp_mono (fun a' w' h3 => ⟨fun p hp => h3.2.1 p (.tail _ hp), ih (listed.setIfInBounds j true) a' w' (hcl.set hj) hfree' (ready_mono hr (Ne.symm hji)) h3.1 (h3.2.1 (i, S) (.head _) hji' hS) ?_⟩) h2
      rw [Array.setIfInBounds_comm _ _ hji]
      have h4 := h3.2.2
      rw [List.filter_cons_of_pos (by simp [hji'])] at h4
      exact h4
end

/-! ### A plan: what is taken early; what else may come up next -/
inductive Plan where
  | done
  | take (i : Nat) (r : Plan)
  | alt (j : Nat) (keep : List Nat) (r others : Plan)
  | stop

def takeable (o : Oper) : Bool := match o.op with
  | .move _ => true
  | .assign _ => true
  | .pick _ _ _ => true
  | .load _ _ => true
  | .nilCheck _ => true
  | .binOp _ _ _ _ _ => true
  | .unOp _ _ _ => true
  | .convert _ _ _ => true
  | .makeInterface _ _ => true
  | .makeFunc _ _ _ => true
  | .fieldAddr _ _ _ => true
  | .field _ _ _ => true
  | .indexAddr _ _ _ => true
  | .index _ _ _ => true
  | .extract _ _ => true
  | .slice _ _ _ _ _ => true
  | .typeAssert _ _ _ _ => true
  | .build _ _ => true
  | .call c => match c.callee with
    | .builtin b => match b with
      | .len => true
      | .min => true
      | .max => true
      | _ => false
    | _ => false
  | _ => false

def ancT (T : List Nat) (j i : Nat) : Bool := (T.getD j 0).testBit i
def okAnc (ops : Array Oper) (T : List Nat) : Bool := (List.range T.length).all fun j => match ops[j]? with
  | none => Nat.beq (T.getD j 0) 0
  | some o => Nat.blt (T.getD j 0) (2 ^ j) && (List.range j).all fun i => !ancT T j i || o.after.toList.any fun e => Region.binds .any e && Nat.blt e.on j && (Nat.beq e.on i || ancT T e.on i)

theorem okAnc_spec {ops : Array Oper} {T : List Nat} (h : okAnc ops T = true) : AncOk ops (ancT T) := by
  intro j i hji
  have hj : j < T.length := by
    rcases Nat.lt_or_ge j T.length with h | h
    · exact h
    · unfold ancT at hji
      have : T.getD j 0 = 0 := by simp [List.getElem?_eq_none h]
      rw [this] at hji; simp at hji
  have h1 := List.all_eq_true.1 h j (List.mem_range.2 hj)
  split at h1
  · have h2 := Nat.eq_of_beq_eq_true h1
    unfold ancT at hji; rw [h2] at hji; simp at hji
  · rename_i o ho
    rw [Bool.and_eq_true] at h1
    have hb : T.getD j 0 < 2 ^ j := Nat.lt_of_succ_le (Nat.le_of_ble_eq_true h1.1)
    have hij : i < j := by
      rcases Nat.lt_or_ge i j with h | h
      · exact h
      · unfold ancT at hji
        rw [Nat.testBit_lt_two_pow (Nat.lt_of_lt_of_le hb (Nat.pow_le_pow_right (by omega) h))] at hji; cases hji
    have h2 := List.all_eq_true.1 h1.2 i (List.mem_range.2 hij)
    rw [hji] at h2
    simp only [Bool.not_true, Bool.false_or] at h2
    obtain ⟨e, he, h3⟩ := List.any_eq_true.1 h2
    simp only [Bool.and_eq_true, Bool.or_eq_true] at h3
    refine ⟨o, ho, e, Array.mem_toList_iff.1 he, h3.1.1, Nat.lt_of_succ_le (Nat.le_of_ble_eq_true h3.1.2), ?_⟩
    rcases h3.2 with h4 | h4
    · exact .inl (Nat.eq_of_beq_eq_true h4)
    · exact .inr h4

def okPlan (ops : Array Oper) (T : List Nat) : Plan → Nat → Array Bool → List Nat → List Nat → Bool
  | .done, _, listed, _, _ => (Region.ready .any ops listed).isEmpty
  | .take i r, fuel, listed, held, _ => match fuel with
    | 0 => false
    | fuel + 1 => match ops[i]? with
      | none => false
      | some o => (Region.ready .any ops listed).contains i && Region.free .any ops listed i && takeable o &&
        okPlan ops T r fuel (listed.setIfInBounds i true) (bif isLoad o then i :: held else held) []
  | .alt j keep r others, fuel, listed, held, seen => match fuel with
    | 0 => false
    | fuel + 1 => (Region.ready .any ops listed).contains j && held.all (fun i => ancT T j i || keep.contains i) && okPlan ops T r fuel (listed.setIfInBounds j true) (held.filter keep.contains) [] && okPlan ops T others (fuel + 1) listed held (j :: seen)
  | .stop, fuel, listed, _, seen => !Nat.beq fuel 0 && (!seen.isEmpty && (Region.ready .any ops listed).all seen.contains)
end Go.Lx
