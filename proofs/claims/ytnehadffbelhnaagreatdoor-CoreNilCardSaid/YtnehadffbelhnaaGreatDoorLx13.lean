/-
  The symbolic executor Lx, part 13: a state seen under other names; loops; scopes; a callee's heap within the caller's.
-/
import Derived.Test.YtnehadffbelhnaaGreatDoorLx12
import Derived.ScopeJumps
namespace Go.Lx
open Go.RowKit

/-! ### Loops -/
theorem least_ex {p : Nat → Prop} (h : ∃ n, p n) : ∃ n, p n ∧ ∀ k, p k → n ≤ k := by
  obtain ⟨n, hn⟩ := h
  induction n using Nat.strongRecOn with
  | _ n ih =>
    by_cases hk : ∃ k, k < n ∧ p k
    · obtain ⟨k, h1, h2⟩ := hk; exact ih k h1 h2
    · exact ⟨n, hn, fun k hk' => Nat.le_of_not_lt fun hlt => hk ⟨k, hlt, hk'⟩⟩
noncomputable def least (p : Nat → Prop) : Nat := Classical.epsilon fun n => p n ∧ ∀ k, p k → n ≤ k
theorem least_spec {p : Nat → Prop} (h : ∃ n, p n) : p (least p) ∧ ∀ k, p k → least p ≤ k := Classical.epsilon_spec (least_ex h)
theorem least_le {p : Nat → Prop} {n : Nat} (h : p n) : least p ≤ n := (least_spec ⟨n, h⟩).2 n h

/-- Round again. -/
structure Back {α : Type} (n0 : Nat) (I : α → TS × List LB) (meas : α → Nat) (x : α) (ts : TS) (H : List LB) : Prop where
  out : ∃ (y : α) (m : List Nat), meas y < meas x ∧ ViewOk n0 m ts H (I y).1 (I y).2

def loopK {α : Type} (n0 : Nat) (I : α → TS × List LB) (meas : α → Nat) (x : α) (K : Post) : Post := fun ex ts H => match ex with
  | .normal => Back n0 I meas x ts H
  | .exit id => K (.exit id) ts H
  | .goto l => K (.goto l) ts H
  | .ret => K .ret ts H

section
variable {P : Program} {M : Mem} {E : Eng P M} {N : Nat}
theorem LoopOk.of_inv {c : Code} {ts : TS} {H : List LB} {K : Post} {α : Type} (I : α → TS × List LB) (meas : α → Nat) (x0 : α) (m0 : List Nat) (hf : fits N c = true)
    (h0 : ViewOk H.length m0 ts H (I x0).1 (I x0).2) (step : ∀ x, vcCode E N c (I x).1 (I x).2 (loopK H.length I meas x K)) : LoopOk P M N c ts H K := by
  refine ⟨⟨fun e own w a hs ht hN => ?_⟩⟩
  let St : α → Act → World → Prop := fun x a' w' => ∃ e' own', H.length ≤ (I x).2.length ∧ Agree e e' H.length ∧ Sat M e' own' w' (I x).2 ∧ Ext own w own' w' ∧ Tm e' (I x).2.length (I x).1 a' ∧ DefOk a.defers w own' w' a' ∧ a'.tmps.size = N
  let p : Act → World → Nat → Prop := fun a' w' n => ∃ x, meas x = n ∧ St x a' w'
  refine wp_loop (fun a' w' => ∃ x, St x a' w') (fun a' w' => least (p a' w')) ?_ ?_
  · obtain ⟨h1, e', own', h2, h3, h4, h5⟩ := h0.use hs ht
    exact ⟨x0, e', own', h1, h2, h3, h4, h5, .of_eq rfl, hN⟩
  · rintro a1 w1 ⟨x1, hx1⟩
    obtain ⟨⟨x, hx, hSt⟩, _⟩ := least_spec (p := p a1 w1) ⟨_, x1, rfl, hx1⟩
    obtain ⟨e1, own1, g1, g2, g3, g4, g5, g6, g7⟩ := hSt
    refine wp_mono ((vcCode_spec hf (step x)).out e1 own1 w1 a1 g3 g5 g7) fun ex a2 w2 hp => ?_
    obtain ⟨e2, own2, ts2, H2, lx, rfl, k1, k2, k3, k4, k5, k6, k7, k8⟩ := hp
    have fin : ∀ lx, K lx ts2 H2 → CPost M N e own w H K a.defers (LX.exit' lx) a2 w2 := fun lx hk => ⟨e2, own2, ts2, H2, lx, rfl, hk, by omega, g2.trans k3 g1, k4, g4.trans k5, k6, g6.trans g4.size k5 k7, k8⟩
    cases lx with
    | normal =>
      obtain ⟨y, m, hlt, hv⟩ := k1.out
      obtain ⟨q1, e3, own3, q2, q3, q4, q5⟩ := hv.use k4 k6
      have hSy : St y a2 w2 := ⟨e3, own3, q1, (g2.trans (k3.mono g1) (Nat.le_refl _)).trans q2 (Nat.le_refl _), q3, (g4.trans k5).trans q4, q5, (g6.trans g4.size k5 k7).own q4, k8⟩
      refine ⟨⟨y, hSy⟩, ?_⟩
      have := least_le (p := p a2 w2) (n := meas y) ⟨y, rfl, hSy⟩
      omega
    | exit id => exact fin (.exit id) k1
    | goto l => exact fin (.goto l) k1
    | ret => exact fin .ret k1

/-- Round by round: at most n of them. -/
def loopFuel {P : Program} {M : Mem} (E : Eng P M) (N : Nat) (c : Code) (K : Post) : Nat → TS → List LB → Prop
  | 0, _, _ => False
  | n + 1, ts, H => vcCode E N c ts H fun x ts' H' => match x with
    | .normal => loopFuel E N c K n ts' H'
    | .exit id => K (.exit id) ts' H'
    | .goto l => K (.goto l) ts' H'
    | .ret => K .ret ts' H'

theorem LoopOk.of_fuel {c : Code} {ts : TS} {H : List LB} {K : Post} (n : Nat) (hf : fits N c = true) (h : loopFuel E N c K n ts H) : LoopOk P M N c ts H K := by
  refine ⟨⟨fun e own w a hs ht hN => ?_⟩⟩
  let St : Nat → Act → World → Prop := fun n a' w' => ∃ e' own' ts' H', loopFuel E N c K n ts' H' ∧ H.length ≤ H'.length ∧ Agree e e' H.length ∧ Sat M e' own' w' H' ∧ Ext own w own' w' ∧ Tm e' H'.length ts' a' ∧ DefOk a.defers w own' w' a' ∧ a'.tmps.size = N
  refine wp_loop (fun a' w' => ∃ n, St n a' w') (fun a' w' => least (fun n => St n a' w')) ?_ ?_
  · exact ⟨n, e, own, ts, H, h, Nat.le_refl _, .refl _ _, hs, .refl _ _, ht, .of_eq rfl, hN⟩
  · rintro a1 w1 ⟨n1, hx1⟩
    obtain ⟨hSt, _⟩ := least_spec (p := fun n => St n a1 w1) ⟨n1, hx1⟩
    generalize hm : least (fun n => St n a1 w1) = m at hSt
    obtain ⟨e1, own1, ts1, H1, g0, g1, g2, g3, g4, g5, g6, g7⟩ := hSt
    cases m with
    | zero => exact g0.elim
    | succ m =>
      refine wp_mono ((vcCode_spec hf g0).out e1 own1 w1 a1 g3 g5 g7) fun ex a2 w2 hp => ?_
      obtain ⟨e2, own2, ts2, H2, lx, rfl, k1, k2, k3, k4, k5, k6, k7, k8⟩ := hp
      have fin : ∀ lx, K lx ts2 H2 → CPost M N e own w H K a.defers (LX.exit' lx) a2 w2 := fun lx hk => ⟨e2, own2, ts2, H2, lx, rfl, hk, by omega, g2.trans k3 g1, k4, g4.trans k5, k6, g6.trans g4.size k5 k7, k8⟩
      cases lx with
      | normal =>
        have hSy : St m a2 w2 := ⟨e2, own2, ts2, H2, k1, by omega, g2.trans k3 g1, k4, g4.trans k5, k6, g6.trans g4.size k5 k7, k8⟩
        have := least_le (p := fun n => St n a2 w2) (n := m) hSy
        exact ⟨⟨m, hSy⟩, by omega⟩
      | exit id => exact fin (.exit id) k1
      | goto l => exact fin (.goto l) k1
      | ret => exact fin .ret k1

/-! ### Scopes -/
def jumpQ (c : Code) (X : Nat → Act → World → Prop) (Q : Exit → Act → World → Prop) : Exit → Act → World → Prop
  | .goto l, a, w => match findLabel c l with
    | some _ => X l a w
    | none => Q (.goto l) a w
  | e, a, w => Q e a w

theorem gotoIn_some {c rest : Code} {l : Nat} {k : List Item} (h : findLabel c l = some rest) : gotoIn l (.inScope c :: k) = some (.code rest :: .inScope c :: k) := by simp [gotoIn, h]
theorem gotoIn_none {c : Code} {l : Nat} {k : List Item} (h : findLabel c l = none) : gotoIn l (.inScope c :: k) = gotoIn l k := by simp [gotoIn, h]

theorem jumpQ_mono {c : Code} {X X' : Nat → Act → World → Prop} {Q : Exit → Act → World → Prop} (h : ∀ l a w, X l a w → X' l a w) {e : Exit} {a : Act} {w : World} (hj : jumpQ c X Q e a w) : jumpQ c X' Q e a w := by
  cases e with
  | goto l =>
    cases hl : findLabel c l with
    | none => simp only [jumpQ, hl] at hj ⊢; exact hj
    | some r => simp only [jumpQ, hl] at hj ⊢; exact h _ _ _ hj
  | _ => exact hj

/-- A scope: what holds at a jump, and a measure that every piece from a label lowers. -/
theorem wp_scope_gen {c : Code} {Q : Exit → Act → World → Prop} {a : Act} {w : World} (J : Nat → Nat → Act → World → Prop)
    (first : c.wp P (jumpQ c (fun l a w => ∃ n, J n l a w) Q) a w)
    (pass : ∀ n l a w rest, findLabel c l = some rest → J n l a w → rest.wp P (jumpQ c (fun l' a' w' => ∃ n', n' < n ∧ J n' l' a' w') Q) a w) : (Code.scope c).wp P Q a w := by
  intro b k cs
  have key : ∀ n l a w rest, findLabel c l = some rest → J n l a w → ∃ e a' w', Q e a' w' ∧ Arrives P (lone (b.at a (.code rest :: .inScope c :: k)) cs w) b k cs e a' w' := by
    intro n
    induction n using Nat.strongRecOn with
    | _ n ih =>
      intro l a w rest hf hJ
      obtain ⟨e, a₁, w₁, hq, harr⟩ := pass n l a w rest hf hJ b (.inScope c :: k) cs
      cases e with
      | normal => exact ⟨.normal, a₁, w₁, hq, Steps.trans harr (.one step_inScope)⟩
      | exit id => exact ⟨.exit id, a₁, w₁, hq, fun k' hk => harr k' (by simp [exitTo, hk])⟩
      | goto l' =>
        cases hl : findLabel c l' with
        | some rest' =>
          simp only [jumpQ, hl] at hq
          obtain ⟨n', hn, hJ'⟩ := hq
          obtain ⟨e₂, a₂, w₂, hq₂, harr₂⟩ := ih n' hn l' a₁ w₁ rest' hl hJ'
          exact ⟨e₂, a₂, w₂, hq₂, .of_steps (harr _ (gotoIn_some hl)) harr₂⟩
        | none =>
          simp only [jumpQ, hl] at hq
          exact ⟨.goto l', a₁, w₁, hq, fun k' hk => harr k' (by rw [gotoIn_none hl]; exact hk)⟩
      | ret => exact ⟨_, a₁, w₁, hq, harr⟩
      | panic ch => exact ⟨_, a₁, w₁, hq, harr⟩
      | outgrown => exact ⟨_, a₁, w₁, hq, harr⟩
  obtain ⟨e, a₁, w₁, hq, harr⟩ := first b (.inScope c :: k) cs
  cases e with
  | normal => exact ⟨.normal, a₁, w₁, hq, .head step_scope (Steps.trans harr (.one step_inScope))⟩
  | exit id => exact ⟨.exit id, a₁, w₁, hq, fun k' hk => .head step_scope (harr k' (by simp [exitTo, hk]))⟩
  | goto l' =>
    cases hl : findLabel c l' with
    | some rest' =>
      simp only [jumpQ, hl] at hq
      obtain ⟨n', hJ'⟩ := hq
      obtain ⟨e₂, a₂, w₂, hq₂, harr₂⟩ := key n' l' a₁ w₁ rest' hl hJ'
      exact ⟨e₂, a₂, w₂, hq₂, .of_steps (.head step_scope (harr _ (gotoIn_some hl))) harr₂⟩
    | none =>
      simp only [jumpQ, hl] at hq
      exact ⟨.goto l', a₁, w₁, hq, fun k' hk => .head step_scope (harr k' (by rw [gotoIn_none hl]; exact hk))⟩
  | ret => exact ⟨_, a₁, w₁, hq, .of_steps (.one step_scope) harr⟩
  | panic ch => exact ⟨_, a₁, w₁, hq, .of_steps (.one step_scope) harr⟩
  | outgrown => exact ⟨_, a₁, w₁, hq, .of_steps (.one step_scope) harr⟩

/-- At most n jumps. -/
def scopeK {P : Program} {M : Mem} (E : Eng P M) (N : Nat) (c : Code) (K : Post) : Nat → Post
  | n, x, ts, H => match x with
    | .goto l => (match findLabel c l with
      | some rest => (match n with
        | 0 => False
        | n + 1 => vcCode E N rest ts H (scopeK E N c K n))
      | none => K (.goto l) ts H)
    | .normal => K .normal ts H
    | .exit id => K (.exit id) ts H
    | .ret => K .ret ts H

theorem fits_findLabel : ∀ {c rest : Code} {l : Nat}, fits N c = true → findLabel c l = some rest → fits N rest = true
  | .seq a b, rest, l, hf, h => by
    simp only [fits, Bool.and_eq_true] at hf
    simp only [findLabel] at h
    cases ha : findLabel a l with
    | some r =>
      rw [ha] at h; cases h
      simp only [fits, Bool.and_eq_true]
      exact ⟨fits_findLabel hf.1 ha, hf.2⟩
    | none => rw [ha] at h; exact fits_findLabel hf.2 h
  | .label l', rest, l, _, h => by
    simp only [findLabel] at h
    split at h <;> cases h
    rfl
  | .skip, _, _, _, h | .region .., _, _, _, h | .cond .., _, _, _, h | .block .., _, _, _, h | .loop .., _, _, _, h | .rangeFunc .., _, _, _, h | .exit .., _, _, _, h
  | .scope .., _, _, _, h | .goto .., _, _, _, h | .ret, _, _, _, h | .refuse .., _, _, _, h => by simp [findLabel] at h

theorem ScopeOk.of_fuel {c : Code} {ts : TS} {H : List LB} {K : Post} (n : Nat) (hf : fits N c = true) (h : vcCode E N c ts H (scopeK E N c K n)) : ScopeOk P M N c ts H K := by
  refine ⟨⟨fun e own w a hs ht hN => ?_⟩⟩
  -- after a piece, with n jumps left
  have after : ∀ (n : Nat) (e1 : Env) (own1 : Nat → Nat → Prop) (w1 : World) (H1 : List LB) (Y : Nat → Nat → Prop), (∀ k, k < n → Y k n) → H.length ≤ H1.length → Agree e e1 H.length → Ext own w own1 w1 → ∀ a1 : Act, DefOk a.defers w own1 w1 a1 → ∀ ex a2 w2, CPost M N e1 own1 w1 H1 (scopeK E N c K n) a1.defers ex a2 w2 →
      jumpQ c (fun l a' w' => ∃ k, Y k n ∧ ∃ e' own' ts' H' rest, findLabel c l = some rest ∧ vcCode E N rest ts' H' (scopeK E N c K k) ∧ H.length ≤ H'.length ∧ Agree e e' H.length ∧ Sat M e' own' w' H' ∧ Ext own w own' w' ∧ Tm e' H'.length ts' a' ∧ DefOk a.defers w own' w' a' ∧ a'.tmps.size = N) (CPost M N e own w H K a.defers) ex a2 w2 := by
    intro n e1 own1 w1 H1 Y hY hl hag hx a1 hd1 ex a2 w2 hp
    obtain ⟨e2, own2, ts2, H2, lx, rfl, k1, k2, k3, k4, k5, k6, k7, k8⟩ := hp
    have fin : ∀ lx, K lx ts2 H2 → CPost M N e own w H K a.defers (LX.exit' lx) a2 w2 := fun lx hk => ⟨e2, own2, ts2, H2, lx, rfl, hk, by omega, hag.trans k3 hl, k4, hx.trans k5, k6, hd1.trans hx.size k5 k7, k8⟩
    cases lx with
    | normal => exact fin .normal (by unfold scopeK at k1; exact k1)
    | exit id => exact fin (.exit id) (by unfold scopeK at k1; exact k1)
    | ret => exact fin .ret (by unfold scopeK at k1; exact k1)
    | goto l =>
      unfold scopeK at k1
      simp only [LX.exit', jumpQ]
      cases hl' : findLabel c l with
      | none => simp only [hl'] at k1; exact fin (.goto l) k1
      | some rest =>
        simp only [hl'] at k1
        cases n with
        | zero => exact k1.elim
        | succ n => exact ⟨n, hY n (by omega), e2, own2, ts2, H2, rest, rfl, k1, by omega, hag.trans k3 hl, k4, hx.trans k5, k6, hd1.trans hx.size k5 k7, k8⟩
  refine wp_scope_gen (fun k l a' w' => ∃ e' own' ts' H' rest, findLabel c l = some rest ∧ vcCode E N rest ts' H' (scopeK E N c K k) ∧ H.length ≤ H'.length ∧ Agree e e' H.length ∧ Sat M e' own' w' H' ∧ Ext own w own' w' ∧ Tm e' H'.length ts' a' ∧ DefOk a.defers w own' w' a' ∧ a'.tmps.size = N) ?_ ?_
  · refine wp_mono ((vcCode_spec hf h).out e own w a hs ht hN) fun ex a2 w2 hp => ?_
    have := after n e own w H (fun _ _ => True) (fun _ _ => trivial) (Nat.le_refl _) (.refl _ _) (.refl _ _) a (.of_eq rfl) ex a2 w2 hp
    refine jumpQ_mono (fun l a' w' hh => ?_) this
    obtain ⟨k, _, hh⟩ := hh
    exact ⟨k, hh⟩
  · rintro n l a1 w1 rest hl ⟨e1, own1, ts1, H1, rest', hl', hv, g1, g2, g3, g4, g5, g6, g7⟩
    rw [hl] at hl'; cases hl'
    refine wp_mono ((vcCode_spec (fits_findLabel hf hl) hv).out e1 own1 w1 a1 g3 g5 g7) fun ex a2 w2 hp => ?_
    exact after n e1 own1 w1 H1 (fun k n => k < n) (fun k hk => hk) g1 g2 g4 a1 g6 ex a2 w2 hp
end
end Go.Lx
