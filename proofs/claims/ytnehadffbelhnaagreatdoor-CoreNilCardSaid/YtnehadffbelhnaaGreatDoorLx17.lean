/-
  The symbolic executor Lx, part 17: runs by tables.
-/
import Derived.Test.YtnehadffbelhnaaGreatDoorLx16
namespace Go.Lx
open Go.RowKit

/-- The orders of a function's drawn regions. -/
abbrev Plans := List (Nat × List Nat × Plan)
def planAt : Plans → Nat → Option (List Nat × Plan)
  | [], _ => none
  | (k, x) :: r, n => bif Nat.beq k n then some x else planAt r n
def okRun (N : Nat) (ops : Array Oper) (T : List Nat) (p : Plan) : Bool :=
  okAnc ops T && dstsIn N ops.toList && Region.noSelect ops && okPlan ops T p ops.size (Array.replicate ops.size false) [] []
def okT (ps : Plans) (N : Nat) : Code → Bool
  | .region id ops d => dstsIn N ops.toList && bif d then (match planAt ps id with
      | some (T, p) => okRun N ops T p
      | none => true) else true
  | .seq a b => okT ps N a && okT ps N b
  | .cond _ a b => okT ps N a && okT ps N b
  | .block _ c => okT ps N c
  | .loop c => okT ps N c
  | .scope c => okT ps N c
  | .rangeFunc _ _ c d => okT ps N c && okT ps N d
  | _ => true
theorem okT_fits {ps : Plans} {N : Nat} : ∀ {c : Code}, okT ps N c = true → fits N c = true
  | .region id ops d, h => by
    simp only [okT, Bool.and_eq_true] at h; exact h.1
  | .seq a b, h => by simp only [okT, fits, Bool.and_eq_true] at h ⊢; exact ⟨okT_fits h.1, okT_fits h.2⟩
  | .cond _ a b, h => by simp only [okT, fits, Bool.and_eq_true] at h ⊢; exact ⟨okT_fits h.1, okT_fits h.2⟩
  | .block _ c, h => okT_fits (c := c) h
  | .loop c, h => okT_fits (c := c) h
  | .scope c, h => okT_fits (c := c) h
  | .rangeFunc _ _ a b, h => by simp only [okT, fits, Bool.and_eq_true] at h ⊢; exact ⟨okT_fits h.1, okT_fits h.2⟩
  | .skip, _ | .exit _, _ | .label _, _ | .goto _, _ | .ret, _ | .refuse _, _ => rfl
theorem okT_findLabel {ps : Plans} {N : Nat} : ∀ {c rest : Code} {l : Nat}, okT ps N c = true → findLabel c l = some rest → okT ps N rest = true
  | .seq a b, rest, l, hf, h => by
    simp only [okT, Bool.and_eq_true] at hf
    simp only [findLabel] at h
    cases ha : findLabel a l with
    | some r =>
      rw [ha] at h; cases h
      simp only [okT, Bool.and_eq_true]
      exact ⟨okT_findLabel hf.1 ha, hf.2⟩
    | none => rw [ha] at h; exact okT_findLabel hf.2 h
  | .label l', rest, l, _, h => by
    simp only [findLabel] at h
    split at h <;> cases h
    rfl
  | .skip, _, _, _, h | .region .., _, _, _, h | .cond .., _, _, _, h | .block .., _, _, _, h | .loop .., _, _, _, h | .rangeFunc .., _, _, _, h | .exit .., _, _, _, h
  | .scope .., _, _, _, h | .goto .., _, _, _, h | .ret, _, _, _, h | .refuse .., _, _, _, h => by simp [findLabel] at h

/-- A function, as it is run. -/
structure FnT where
  n : Nat
  res : List ResultVar
  code : Code
  plans : Plans

structure FnT.Ok (P : Program) (f : FuncId) (t : FnT) : Prop where
  out : ∃ fn, P.funcs[f]? = some fn ∧ fn.body = some t.code ∧ fn.ntmps = t.n ∧ fn.results.toList = t.res
  enter : ∀ as w, (callFunc f as).run P w = .ok (.enter f as) w
  ok : okT t.plans t.n t.code = true

/-- The functions, found by halving. -/
inductive Tree where
  | none
  | one (f : FuncId) (t : FnT)
  | node (k : Nat) (a b : Tree)
def Tree.find : Tree → FuncId → Option FnT
  | .none, _ => .none
  | .one f t, n => bif Nat.beq f n then some t else .none
  | .node k a b, n => bif Nat.blt n k then a.find n else b.find n
def Tree.Ok (P : Program) : Tree → Prop
  | .none => True
  | .one f t => FnT.Ok P f t
  | .node _ a b => a.Ok P ∧ b.Ok P
theorem Tree.find_ok {P : Program} : ∀ {T : Tree} {f : FuncId} {t : FnT}, T.Ok P → T.find f = some t → FnT.Ok P f t
  | .none, _, _, _, h => by simp [Tree.find] at h
  | .one f' t', f, t, ho, h => by
    unfold Tree.find at h
    cases hb : Nat.beq f' f
    · rw [hb] at h; cases h
    · rw [hb] at h; cases h
      rw [← Nat.eq_of_beq_eq_true hb]; exact ho
  | .node k a b, f, t, ho, h => by
    unfold Tree.find at h
    cases hb : Nat.blt f k
    · rw [hb] at h; exact Tree.find_ok ho.2 h
    · rw [hb] at h; exact Tree.find_ok ho.1 h

/-- What is told of a program that is run. -/
structure Cfg (P : Program) where
  tree : Tree
  treeOk : tree.Ok P
  mixed : P.follows .mixedOrders = true

section
variable {P : Program} {M : Mem}
def vcF (E : Eng P M) (ps : Plans) (N : Nat) (J : Code → Body) : Code → Body
  | .skip, ts, H, K => K .normal ts H
  | .region id ops draw, ts, H, K => bif draw then (match planAt ps id with
      | some (_, p) => vcAny E N ops.toList p ts H [] (K .normal)
      | none => False) else vcSeq E N ops.toList ops.toList ts H (K .normal)
  | .seq a b, ts, H, K => vcF E ps N J a ts H fun x ts' H' => match x with
    | .normal => vcF E ps N J b ts' H' K
    | .exit id => K (.exit id) ts' H'
    | .goto l => K (.goto l) ts' H'
    | .ret => K .ret ts' H'
  | .cond c t f, ts, H, K => ev ts (boolLK fun b => forkB b (vcF E ps N J t ts H K) (vcF E ps N J f ts H K)) c
  | .block id c, ts, H, K => vcF E ps N J c ts H fun x ts' H' => match x with
    | .normal => K .normal ts' H'
    | .exit id' => bif Nat.beq id' id then K .normal ts' H' else K (.exit id') ts' H'
    | .goto l => K (.goto l) ts' H'
    | .ret => K .ret ts' H'
  | .loop c, ts, H, K => loopF (vcF E ps N J c) (dedup ts []) K 1000000 ts H
  | .rangeFunc f _ _ _, ts, H, K => rangeK E f ts H K
  | .exit id, ts, H, K => K (.exit id) ts H
  | .scope c, ts, H, K => J c ts H (scopeF J c K 1000000)
  | .label _, ts, H, K => K .normal ts H
  | .goto l, ts, H, K => K (.goto l) ts H
  | .ret, ts, H, K => K .ret ts H
  | .refuse _, _, _, _ => False

theorem vcF_ok (hm : P.follows .mixedOrders = true) {E : Eng P M} {ps : Plans} {N : Nat} {J : Code → Body} (hJ : ∀ c, okT ps N c = true → ∀ ts H K, J c ts H K → CodeOk P M N c ts H K) :
    ∀ {c : Code}, okT ps N c = true → ∀ ts H K, vcF E ps N J c ts H K → CodeOk P M N c ts H K
  | .skip, _, ts, H, K, h => ⟨fun e own w a hs ht hN => wp_skip (CPost.now .normal h hs ht hN)⟩
  | .label l, _, ts, H, K, h => ⟨fun e own w a hs ht hN => wp_label (CPost.now .normal h hs ht hN)⟩
  | .exit id, _, ts, H, K, h => ⟨fun e own w a hs ht hN => wp_exit (CPost.now (.exit id) h hs ht hN)⟩
  | .goto l, _, ts, H, K, h => ⟨fun e own w a hs ht hN => wp_goto (CPost.now (.goto l) h hs ht hN)⟩
  | .ret, _, ts, H, K, h => ⟨fun e own w a hs ht hN => wp_ret (CPost.now .ret h hs ht hN)⟩
  | .refuse _, _, ts, H, K, h => h.elim
  | .rangeFunc f ps c d, _, ts, H, K, h => rangeK_ok (E := E) h
  | .loop c, ho, ts, H, K, h => (loopF_ok (vcF_ok hm hJ (c := c) ho) _ h).out
  | .scope c, ho, ts, H, K, h => (scopeF_ok (V := J) (c := c) (fun c' hc ts H K h => hJ c' (by
      rcases hc with rfl | ⟨l, hl⟩
      · exact ho
      · exact okT_findLabel (c := c) ho hl) ts H K h) _ h).out
  | .region id ops true, ho, ts, H, K, h => by
    have h : (match planAt ps id with
      | some (_, p) => vcAny E N ops.toList p ts H [] (K .normal)
      | none => False) := h
    simp only [okT, Bool.and_eq_true, cond_true] at ho
    have ho := ho.2
    split at h
    · rename_i T p hp
      rw [hp] at ho
      exact (DrawOk.of_plan p T hm ho h).out
    · exact h.elim
  | .region id ops false, ho, ts, H, K, h => vcCode_spec (E := E) (c := .region id ops false) (okT_fits ho) h
  | .seq x y, ho, ts, H, K, h => ⟨fun e own w a hs ht hN => by
      simp only [okT, Bool.and_eq_true] at ho
      refine wp_seq (wp_mono ((vcF_ok hm hJ ho.1 _ _ _ h).out e own w a hs ht hN) fun ex a' w' hp => ?_)
      obtain ⟨e', own', ts', H', lx, rfl, h2, h3, h4, h5, h6, h7, h8, h9⟩ := hp
      cases lx with
      | normal => exact wp_mono ((vcF_ok hm hJ ho.2 _ _ _ h2).out e' own' w' a' h5 h7 h9) fun ex a'' w'' hp => hp.step h3 h4 h6 h8
      | exit id => exact ⟨e', own', ts', H', .exit id, rfl, h2, h3, h4, h5, h6, h7, h8, h9⟩
      | goto l => exact ⟨e', own', ts', H', .goto l, rfl, h2, h3, h4, h5, h6, h7, h8, h9⟩
      | ret => exact ⟨e', own', ts', H', .ret, rfl, h2, h3, h4, h5, h6, h7, h8, h9⟩⟩
  | .cond c t f, ho, ts, H, K, h => ⟨fun e own w a hs ht hN => by
      simp only [okT, Bool.and_eq_true] at ho
      obtain ⟨cv, h1, h2, _⟩ := ev_spec ht h
      obtain ⟨b, h3, rfl⟩ := boolLK_spec h1
      refine wp_cond (t := b) h2 ?_
      cases b
      · exact (vcF_ok hm hJ ho.2 _ _ _ h3).out e own w a hs ht hN
      · exact (vcF_ok hm hJ ho.1 _ _ _ h3).out e own w a hs ht hN⟩
  | .block id c, ho, ts, H, K, h => ⟨fun e own w a hs ht hN => by
      refine wp_block (wp_mono ((vcF_ok hm hJ (c := c) ho _ _ _ h).out e own w a hs ht hN) fun ex a' w' hp => ?_)
      obtain ⟨e', own', ts', H', lx, rfl, h2, h3, h4, h5, h6, h7, h8, h9⟩ := hp
      cases lx with
      | normal => exact ⟨e', own', ts', H', .normal, rfl, h2, h3, h4, h5, h6, h7, h8, h9⟩
      | exit id' =>
        simp only [LX.exit', Exit.inBlock]
        cases hb : Nat.beq id' id
        · simp only [hb, cond] at h2
          rw [if_neg (fun he => by subst he; rw [Nat.beq_refl] at hb; cases hb)]
          exact ⟨e', own', ts', H', .exit id', rfl, h2, h3, h4, h5, h6, h7, h8, h9⟩
        · simp only [hb, cond] at h2
          rw [if_pos (Nat.eq_of_beq_eq_true hb)]
          exact ⟨e', own', ts', H', .normal, rfl, h2, h3, h4, h5, h6, h7, h8, h9⟩
      | goto l => exact ⟨e', own', ts', H', .goto l, rfl, h2, h3, h4, h5, h6, h7, h8, h9⟩
      | ret => exact ⟨e', own', ts', H', .ret, rfl, h2, h3, h4, h5, h6, h7, h8, h9⟩⟩

def vcJ (E : Eng P M) (ps : Plans) (N : Nat) : Nat → Code → Body
  | 0, _, _, _, _ => False
  | n + 1, c, ts, H, K => vcF E ps N (vcJ E ps N n) c ts H K
theorem vcJ_ok (hm : P.follows .mixedOrders = true) {E : Eng P M} {ps : Plans} {N : Nat} : ∀ (n : Nat) (c : Code), okT ps N c = true → ∀ ts H K, vcJ E ps N n c ts H K → CodeOk P M N c ts H K
  | 0, _, _, _, _, _, h => h.elim
  | n + 1, c, ho, ts, H, K, h => vcF_ok hm (vcJ_ok hm n) ho ts H K h

def runCall (T : Tree) (E : Eng P M) (f : FuncId) (args : List LV) (H : List LB) (K : LV → List LB → Prop) : Prop :=
  match T.find f with
  | some t => (match t with
    | ⟨n, res, c, ps⟩ => bif Nat.ble args.length n then vcJ E ps n 100 c (enterTs args 0) H (retK P M res K) else False)
  | none => False
theorem runCall_ok (cfg : Cfg P) {E : Eng P M} {f : FuncId} {args : List LV} {H : List LB} {K : LV → List LB → Prop} (h : runCall cfg.tree E f args H K) : CallOk P M f args H K := by
  unfold runCall at h
  split at h
  · rename_i t ht
    obtain ⟨⟨fn, h1, h2, h3, h4⟩, h5, h6⟩ := Tree.find_ok cfg.treeOk ht
    split at h
    rename_i n res c ps
    obtain ⟨h7, h8⟩ := bif_elim h
    simp only at h2 h3 h4 h6
    subst h3 h4
    exact .of_codeOk h1 h2 h5 h7 (vcJ_ok cfg.mixed _ _ h6 _ _ _ h8)
  · exact h.elim

def findMeth (P : Program) (t : TypeId) (name : String) : Option FuncId :=
  match P.info? t with
  | some i => (match i.methods.find? (·.name == name) with
    | some m => m.func.map (·.1)
    | none => none)
  | none => none
def runInvoke (C : FuncId → List LV → List LB → (LV → List LB → Prop) → Prop) (x : LV) (name : String) (args : List LV) (H : List LB) (K : LV → List LB → Prop) : Prop :=
  match x with
  | .iface t y => (match findMeth P t name with
    | some f => bif methB P t name f then C f (y :: args) H K else False
    | none => False)
  | _ => False
theorem runInvoke_ok {C : FuncId → List LV → List LB → (LV → List LB → Prop) → Prop} (hC : ∀ {f : FuncId} {args : List LV} {H : List LB} {K : LV → List LB → Prop}, C f args H K → CallOk P M f args H K)
    {x : LV} {name : String} {args : List LV} {H : List LB} {K : LV → List LB → Prop} (h : runInvoke (P := P) C x name args H K) : InvokeOk P M x name args H K := by
  unfold runInvoke at h
  split at h
  · split at h
    · obtain ⟨h1, h2⟩ := bif_elim h
      exact .of_call _ h1 (hC h2)
    · exact h.elim
  · exact h.elim

def Eng.of (C : FuncId → List LV → List LB → (LV → List LB → Prop) → Prop) (hC : ∀ {f : FuncId} {args : List LV} {H : List LB} {K : LV → List LB → Prop}, C f args H K → CallOk P M f args H K) : Eng P M where
  call f args H K := C f args H K
  callOk h := hC h
  invoke x name args H K := runInvoke (P := P) C x name args H K
  invokeOk h := runInvoke_ok hC h
  norm y K := normK y K
  normOk h := normK_ok h
  loop _ _ _ _ _ := False
  loopOk _ h := h.elim
  scope _ _ _ _ _ := False
  scopeOk _ h := h.elim
  range _ _ _ _ _ _ _ _ := False
  rangeOk _ h := h.elim
  draw _ _ _ _ _ _ := False
  drawOk h := h.elim
  join n0 A B K := joinRun n0 A B K
  joinOk fA fB h := joinRun_ok fA fB h
def Eng.run (cfg : Cfg P) : Nat → Eng P M
  | 0 => .of (fun _ _ _ _ => False) fun h => h.elim
  | n + 1 => .of (runCall cfg.tree (Eng.run cfg n)) (runCall_ok cfg)
end

/-- A call on what is known, run to its end. -/
theorem CallOk.of_run {P : Program} (cfg : Cfg P) (M : Rom) (G : Laid) (hG : G.ok M) {f : FuncId} {args : List LV} {H : List LB} {K : LV → List LB → Prop} (n : Nat)
    (h : (Eng.run (M := .run M G hG) cfg n).call f args H K) : CallOk P (.sym M) f args H K := CallOk.mem (M := .run M G hG) (M' := .sym M) rfl ((Eng.run (M := .run M G hG) cfg n).callOk h)
/-- The answer is true. -/
def yesK (r : LV) (_ : List LB) : Prop :=
  match r with
  | .v x => (match x with
    | .bool b => (match b with
      | true => True
      | false => False)
    | _ => False)
  | _ => False
theorem yesK_eq {r : LV} {H : List LB} (h : yesK r H) : r = .v (.bool true) := by
  unfold yesK at h
  split at h
  · split at h
    · split at h
      · rfl
      · exact h.elim
    · exact h.elim
  · exact h.elim
/-- A call on what is known comes to true. -/
theorem CallOk.of_yes {P : Program} (cfg : Cfg P) (M : Rom) (G : Laid) (hG : G.ok M) {f : FuncId} {args : List LV} {H : List LB} (n : Nat)
    (h : (Eng.run (M := .run M G hG) cfg n).call f args H yesK = True) : CallOk P (.sym M) f args H (fun r _ => r = .v (.bool true)) :=
  (CallOk.of_run cfg M G hG n (of_eq_true h)).mono fun _ _ h => yesK_eq h
end Go.Lx
