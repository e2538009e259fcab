/-
  The symbolic executor Lx, part 15: small forms of the rules.
-/
import Derived.Test.YtnehadffbelhnaaGreatDoorLx14
import Derived.Test.YtnehadffbelhnaaGreatDoorLx3b
namespace Go.Lx
open Go.RowKit
section
variable {P : Program} {M : Mem} {f : FuncId}
/-- A call of a function of values, by its contract. -/
theorem CallOk.pureV {args : List LV} {x : Value} {H : List LB} {K : LV → List LB → Prop} (hc : CallOk P M f args [] (fun r H' => H' = [] ∧ r = .v x)) (ha : args = renL [] args)
    (hb : scbL 0 args = true) (h : K (.v x) H) : CallOk P M f args H K := by
  refine CallOk.embed (Hc := []) [] hc ha ?_ trivial fun r Hc' hk => ?_
  · simp [embB, hb, ltAll, distinct]
  · obtain ⟨rfl, rfl⟩ := hk
    have : ∀ (l : List LB) (n : Nat) (K : Nat → Prop), (∀ k, K k) → countK l n K := by
      intro l
      induction l with
      | nil => intro n K h; exact h n
      | cons x l ih => intro n K h; exact ih _ _ h
    exact this _ _ _ fun k => h
/-- Nothing is left but a value. -/
theorem RetV.pure {K : LV → List LB → Prop} {x : Value} {H : List LB} (h : K (.v x) []) : RetV 0 K (.v x) H :=
  ⟨⟨[], .v x, [], h, by rfl, rfl, trivial⟩⟩
end
end Go.Lx
