/-
  The symbolic executor Lx, part 8 (first half): what a call, and a piece of code, leave; engines.
-/
import Derived.Test.YtnehadffbelhnaaGreatDoorLx7v
namespace Go.Lx
open Go.RowKit

/-- What a call leaves. -/
def RetPost (M : Mem) (e : Env) (own : Nat → Nat → Prop) (w : World) (H : List LB) (K : LV → List LB → Prop) : Ending → World → Prop := fun en w' =>
  ∃ e' own' H' r, en = .returned (r.den e') ∧ K r H' ∧ H.length ≤ H'.length ∧ Agree e e' H.length ∧ Sat M e' own' w' H' ∧ Ext own w own' w' ∧ r.sc H'.length

/-- A call of a function, over named locations. -/
structure CallOk (P : Program) (M : Mem) (f : FuncId) (args : List LV) (H : List LB) (K : LV → List LB → Prop) : Prop where
  enter : ∀ as w, (callFunc f as).run P w = .ok (.enter f as) w
  out : ∀ e own w, Sat M e own w H → scL H.length args → Calls P f (denL e args).toArray w (RetPost M e own w H K)

/-- A call of a method through an interface's value. -/
structure InvokeOk (P : Program) (M : Mem) (x : LV) (name : String) (args : List LV) (H : List LB) (K : LV → List LB → Prop) : Prop where
  out : ∀ e own w, Sat M e own w H → x.sc H.length → scL H.length args → ∃ f as, (callMethod (x.den e) name (denL e args).toArray).run P w = .ok (.enter f as) w ∧
    Calls P f as w (RetPost M e own w H K)

/-- A method's call, from the function's. -/
theorem InvokeOk.of_call {P : Program} {M : Mem} {t : TypeId} {x : LV} {name : String} {args : List LV} {H : List LB} {K : LV → List LB → Prop} (f : FuncId) (hm : methB P t name f = true)
    (h : CallOk P M f (x :: args) H K) : InvokeOk P M (.iface t x) name args H K :=
  ⟨fun e own w hs hx hsc => ⟨f, _, by
    simp only [LV.den]
    rw [run_callMethod hm, h.enter], by
    have := h.out e own w hs ⟨hx, hsc⟩
    simpa [denL] using this⟩⟩

/-- How a piece of code is left. -/
inductive LX where
  | normal
  | exit (id : Nat)
  | goto (l : Nat)
  | ret
def LX.exit' : LX → Exit
  | .normal => .normal
  | .exit id => .exit id
  | .goto l => .goto l
  | .ret => .ret

abbrev Post := LX → TS → List LB → Prop

/-- The marks of ranges over functions among the deferred calls. -/
def marks (rs : List Nat) : List Deferred := rs.map fun r => { target := .collected r, args := #[] }
structure DefOk (D : List Deferred) (w : World) (own' : Nat → Nat → Prop) (w' : World) (a' : Act) : Prop where
  out : ∃ rs, a'.defers = marks rs ++ D ∧ rs.Nodup ∧ ∀ r ∈ rs, w.heap.size ≤ r ∧ w'.heap[r]? = some (.deferred (some [])) ∧ ∀ i, ¬ own' i r
theorem DefOk.of_eq {D : List Deferred} {w : World} {own' : Nat → Nat → Prop} {w' : World} {a' : Act} (h : a'.defers = D) : DefOk D w own' w' a' := ⟨[], h, List.nodup_nil, by simp⟩
theorem DefOk.trans {D : List Deferred} {w w1 w2 : World} {own1 own2 : Nat → Nat → Prop} {a1 a2 : Act} (h : DefOk D w own1 w1 a1) (hw : w.heap.size ≤ w1.heap.size) (hx : Ext own1 w1 own2 w2)
    (k : DefOk a1.defers w1 own2 w2 a2) : DefOk D w own2 w2 a2 := by
  obtain ⟨rs, h1, h2, h3⟩ := h.out
  obtain ⟨qs, k1, k2, k3⟩ := k.out
  have hlt : ∀ r ∈ rs, r < w1.heap.size := fun r hr => (Array.getElem?_eq_some_iff.1 (h3 r hr).2.1).1
  refine ⟨qs ++ rs, by rw [k1, h1]; simp [marks], List.nodup_append.2 ⟨k2, h2, fun x hx y hy he => ?_⟩, fun r hr => ?_⟩
  · subst he; have := hlt x hy; have := (k3 x hx).1; omega
  · rcases List.mem_append.1 hr with hr | hr
    · obtain ⟨q1, q2, q3⟩ := k3 r hr; exact ⟨by omega, q2, q3⟩
    · obtain ⟨q1, q2, q3⟩ := h3 r hr
      refine ⟨q1, by rw [hx.block r (hlt r hr) q3]; exact q2, fun i hi => ?_⟩
      obtain ⟨j, hj⟩ := hx.own i r hi (hlt r hr)
      exact q3 j hj
theorem DefOk.own {D : List Deferred} {w : World} {own1 own2 : Nat → Nat → Prop} {w1 w2 : World} {a : Act} (h : DefOk D w own1 w1 a) (hx : Ext own1 w1 own2 w2) : DefOk D w own2 w2 a := by
  obtain ⟨rs, h1, h2, h3⟩ := h.out
  refine ⟨rs, h1, h2, fun r hr => ?_⟩
  obtain ⟨q1, q2, q3⟩ := h3 r hr
  have hlt := (Array.getElem?_eq_some_iff.1 q2).1
  refine ⟨q1, by rw [hx.block r hlt q3]; exact q2, fun i hi => ?_⟩
  obtain ⟨j, hj⟩ := hx.own i r hi hlt
  exact q3 j hj

def CPost (M : Mem) (N : Nat) (e : Env) (own : Nat → Nat → Prop) (w : World) (H : List LB) (K : Post) (D : List Deferred) : Exit → Act → World → Prop := fun ex a' w' =>
  ∃ e' own' ts' H' x, ex = LX.exit' x ∧ K x ts' H' ∧ H.length ≤ H'.length ∧ Agree e e' H.length ∧ Sat M e' own' w' H' ∧ Ext own w own' w' ∧ Tm e' H'.length ts' a' ∧ DefOk D w own' w' a' ∧ a'.tmps.size = N

structure CodeOk (P : Program) (M : Mem) (N : Nat) (c : Code) (ts : TS) (H : List LB) (K : Post) : Prop where
  out : ∀ e own w a, Sat M e own w H → Tm e H.length ts a → a.tmps.size = N → c.wp P (CPost M N e own w H K a.defers) a w

/-- What is left to whoever proves: a loop; a scope with jumps; a region whose order is drawn; a range over a function. -/
structure LoopOk (P : Program) (M : Mem) (N : Nat) (c : Code) (ts : TS) (H : List LB) (K : Post) : Prop where
  out : CodeOk P M N (.loop c) ts H K
structure ScopeOk (P : Program) (M : Mem) (N : Nat) (c : Code) (ts : TS) (H : List LB) (K : Post) : Prop where
  out : CodeOk P M N (.scope c) ts H K
structure RangeOk (P : Program) (M : Mem) (N : Nat) (f : Operand) (ps : Array Tmp) (c d : Code) (ts : TS) (H : List LB) (K : Post) : Prop where
  out : CodeOk P M N (.rangeFunc f ps c d) ts H K
structure DrawOk (P : Program) (M : Mem) (N : Nat) (id : Nat) (ops : Array Oper) (ts : TS) (H : List LB) (K : Post) : Prop where
  out : CodeOk P M N (.region id ops true) ts H K

/-- Every operation's temporary lies in the frame. -/
def dstsIn (N : Nat) (ops : List Oper) : Bool := ops.all fun o => match o.dst with
  | some d => Nat.ble (d + 1) N
  | none => true

/-- The frame is large enough for all that the code writes. -/
def fits (N : Nat) : Code → Bool
  | .region _ ops _ => dstsIn N ops.toList
  | .seq a b => fits N a && fits N b
  | .cond _ t f => fits N t && fits N f
  | .block _ c => fits N c
  | .loop c => fits N c
  | .scope c => fits N c
  | .rangeFunc _ _ c d => fits N c && fits N d
  | _ => true


/-- How calls, loops, and what else is left to whoever proves, are gone about; and in which form values are kept. -/
structure Eng (P : Program) (M : Mem) where
  call : FuncId → List LV → List LB → (LV → List LB → Prop) → Prop
  callOk : ∀ {f : FuncId} {args : List LV} {H : List LB} {K : LV → List LB → Prop}, call f args H K → CallOk P M f args H K
  invoke : LV → String → List LV → List LB → (LV → List LB → Prop) → Prop
  invokeOk : ∀ {x : LV} {name : String} {args : List LV} {H : List LB} {K : LV → List LB → Prop}, invoke x name args H K → InvokeOk P M x name args H K
  norm : LV → (LV → Prop) → Prop
  normOk : ∀ {y : LV} {K : LV → Prop}, norm y K → K y
  loop : Nat → Code → TS → List LB → Post → Prop
  loopOk : ∀ {N : Nat} {c : Code} {ts : TS} {H : List LB} {K : Post}, fits N c = true → loop N c ts H K → LoopOk P M N c ts H K
  scope : Nat → Code → TS → List LB → Post → Prop
  scopeOk : ∀ {N : Nat} {c : Code} {ts : TS} {H : List LB} {K : Post}, fits N c = true → scope N c ts H K → ScopeOk P M N c ts H K
  range : Nat → Operand → Array Tmp → Code → Code → TS → List LB → Post → Prop
  rangeOk : ∀ {N : Nat} {f : Operand} {ps : Array Tmp} {c d : Code} {ts : TS} {H : List LB} {K : Post}, (fits N c && fits N d) = true → range N f ps c d ts H K → RangeOk P M N f ps c d ts H K
  draw : Nat → Nat → Array Oper → TS → List LB → Post → Prop
  drawOk : ∀ {N id : Nat} {ops : Array Oper} {ts : TS} {H : List LB} {K : Post}, draw N id ops ts H K → DrawOk P M N id ops ts H K
  join : Nat → ((TS → List LB → Prop) → Prop) → ((TS → List LB → Prop) → Prop) → (TS → List LB → Prop) → Prop
  joinOk : ∀ {n0 : Nat} {A B : (TS → List LB → Prop) → Prop} {K : TS → List LB → Prop}, (∀ K', A K' → ∃ ts H, K' ts H) → (∀ K', B K' → ∃ ts H, K' ts H) → join n0 A B K →
    ∃ KA KB, A KA ∧ B KB ∧ (∀ ts H, KA ts H → Seen n0 K ts H) ∧ (∀ ts H, KB ts H → Seen n0 K ts H)

/-- All is left to whoever proves. -/
def Eng.sym (P : Program) (M : Mem) : Eng P M where
  call f args H K := CallOk P M f args H K
  callOk h := h
  invoke x name args H K := InvokeOk P M x name args H K
  invokeOk h := h
  norm y K := K y
  normOk h := h
  loop N c ts H K := LoopOk P M N c ts H K
  loopOk _ h := h
  scope N c ts H K := ScopeOk P M N c ts H K
  scopeOk _ h := h
  range N f ps c d ts H K := RangeOk P M N f ps c d ts H K
  rangeOk _ h := h
  draw N id ops ts H K := DrawOk P M N id ops ts H K
  drawOk h := h
  join _ A B K := A K ∧ B K
  joinOk _ _ h := ⟨_, _, h.1, h.2, fun _ _ h => .same h, fun _ _ h => .same h⟩
end Go.Lx
