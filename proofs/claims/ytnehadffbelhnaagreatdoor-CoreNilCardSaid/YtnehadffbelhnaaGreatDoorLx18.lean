/-
  The symbolic executor Lx, part 18: runs on values that are not known, over a call whose answer is proved.
-/
import Derived.Test.YtnehadffbelhnaaGreatDoorLx17
namespace Go.Lx
open Go.RowKit
section
variable {P : Program} {M : Mem}
/-- A function without arguments whose answer is known. -/
structure Known (P : Program) (M : Mem) where
  f : FuncId
  x : Value
  ok : CallOk P M f [] [] (fun r H' => H' = [] ∧ r = .v x)
def knownCall (k : Known P M) (C : FuncId → List LV → List LB → (LV → List LB → Prop) → Prop) (f : FuncId) (args : List LV) (H : List LB) (K : LV → List LB → Prop) : Prop :=
  bif Nat.beq f k.f then (match args with
    | [] => K (.v k.x) H
    | _ => False) else C f args H K
theorem knownCall_ok (k : Known P M) {C : FuncId → List LV → List LB → (LV → List LB → Prop) → Prop} (hC : ∀ {f : FuncId} {args : List LV} {H : List LB} {K : LV → List LB → Prop}, C f args H K → CallOk P M f args H K)
    {f : FuncId} {args : List LV} {H : List LB} {K : LV → List LB → Prop} (h : knownCall k C f args H K) : CallOk P M f args H K := by
  unfold knownCall at h
  cases hb : Nat.beq f k.f
  · rw [hb] at h; exact hC h
  · rw [hb] at h
    have := Nat.eq_of_beq_eq_true hb
    subst this
    match args, h with
    | [], h => exact .pureV k.ok rfl (by rfl) h
def Eng.lazy (k : Known P M) (cfg : Cfg P) : Nat → Eng P M
  | 0 => .of (fun _ _ _ _ => False) fun h => h.elim
  | n + 1 => { Eng.of (P := P) (M := M) (knownCall k (runCall cfg.tree (Eng.lazy k cfg n))) (knownCall_ok k (runCall_ok cfg)) with
    norm := fun y K => K y
    normOk := fun h => h }
end
/-- Where the answer is true, nothing else is left of a call. -/
theorem CallOk.of_true {P : Program} {M : Mem} {f : FuncId} {args : List LV} (h : CallOk P M f args [] (fun r _ => r = .v (.bool true))) :
    CallOk P M f args [] (fun r H' => H' = [] ∧ r = .v (.bool true)) :=
  .view (h.mono fun r H' hr => by subst hr; exact .pure ⟨rfl, rfl⟩)
theorem CallOk.of_lazy {P : Program} (cfg : Cfg P) (M : Rom) (G : Laid) (hG : G.ok M) {f g : FuncId} {args : List LV} {H : List LB} (hk : CallOk P (.sym M) g [] [] (fun r _ => r = .v (.bool true))) (n : Nat)
    (h : (Eng.lazy (M := .run M G hG) ⟨g, .bool true, (CallOk.mem (M := .sym M) (M' := .run M G hG) rfl hk).of_true⟩ cfg n).call f args H yesK = True) : CallOk P (.sym M) f args H (fun r _ => r = .v (.bool true)) :=
  (CallOk.mem (M := .run M G hG) (M' := .sym M) rfl ((Eng.lazy _ cfg n).callOk (of_eq_true h))).mono fun _ _ h => yesK_eq h
end Go.Lx
