/-
  The symbolic executor Lx, part 3b: == of structs and arrays.
-/
import Derived.Test.YtnehadffbelhnaaGreatDoorLx3
import Derived.Laws.StructEq
namespace Go.Lx
open Go.RowKit

def partVK (P : Program) (t : TypeId) (cs : List Value) (off : Nat) (K : Value → Prop) : Prop :=
  sizeK P t fun n => aggK P t fun g => bif g then dropK (fun r => takeK (fun zs => K (.agg zs.toArray)) r n) cs off else getK K cs off
def eqFK (P : Program) (E : TypeId → Value → Value → (Bool → Prop) → Prop) (xs ys : List Value) : List Field → (Bool → Prop) → Prop
  | [], K => K true
  | f :: fs, K => if f.name = "_" then eqFK P E xs ys fs K else
      partVK P f.type xs f.offset fun a => partVK P f.type ys f.offset fun b => E f.type a b fun r => eqFK P E xs ys fs fun r2 => K (r && r2)
def eqAK (P : Program) (E : Value → Value → (Bool → Prop) → Prop) (el : TypeId) (n : Nat) (xs ys : List Value) : Nat → Nat → (Bool → Prop) → Prop
  | 0, _, K => K true
  | c + 1, i, K => partVK P el xs (i * n) fun a => partVK P el ys (i * n) fun b => E a b fun r => eqAK P E el n xs ys c (i + 1) fun r2 => K (r && r2)
def memS : Nat → List Nat → Bool
  | _, [] => false
  | n, x :: xs => Nat.beq n x || memS n xs
theorem memS_mem {n : Nat} : ∀ {l : List Nat}, memS n l = true → n ∈ l
  | [], h => by simp [memS] at h
  | x :: xs, h => by
    simp only [memS, Bool.or_eq_true] at h
    rcases h with h | h
    · rw [Nat.eq_of_beq_eq_true h]; exact .head _
    · exact .tail _ (memS_mem h)
/-- S: struct types whose == is fieldwise. -/
def okS (P : Program) (S : List Nat) : Bool := S.all fun t => !P.stoodInHeld t && !P.eqGuardType P.depth t
def eqVK (P : Program) (S : List Nat) : Nat → TypeId → Value → Value → (Bool → Prop) → Prop
  | 0, _, _, _, _ => False
  | d + 1, t, X, Y, K => match P.underlying t with
    | some (.int _) => (match X, Y with
      | .int k a, .int k' b => if k = k' then K (a == b) else False
      | _, _ => False)
    | some .bool => (match X, Y with
      | .bool a, .bool b => K (a == b)
      | _, _ => False)
    | some .string => (match X, Y with
      | .string a, .string b => K (a.toList == b.toList)
      | _, _ => False)
    | some (.struct fs) => (match X, Y with
      | .agg xs, .agg ys => bif memS t S then eqFK P (eqVK P S d) xs.toList ys.toList fs.toList K else False
      | _, _ => False)
    | some (.array len el) => (match X, Y with
      | .agg xs, .agg ys => sizeK P el fun n => eqAK P (eqVK P S d el) el n xs.toList ys.toList len 0 K
      | _, _ => False)
    | _ => False

section
variable {P : Program}
theorem partVK_spec {t : TypeId} {cs : List Value} {off : Nat} {K : Value → Prop} (h : partVK P t cs off K) : ∃ y, K y ∧ ∀ w, (part t cs.toArray off).run P w = .ok y w := by
  obtain ⟨i, hi, h⟩ := sizeK_spec h
  obtain ⟨d, hd, h⟩ := aggK_spec h
  cases hg : aggOf d
  · rw [hg] at h
    obtain ⟨y, hy, h⟩ := getK_spec h
    refine ⟨y, h, fun w => ?_⟩
    simp [part, run_isAgg hd, hg, hy]
  · rw [hg] at h
    obtain ⟨h1, h⟩ := dropK_spec h
    obtain ⟨h2, h⟩ := takeK_spec h
    refine ⟨_, h, fun w => ?_⟩
    simp only [part, Sem.run_bind, run_isAgg hd, hg, Result.andThen_ok, if_true, run_sizeOf hi, Sem.run_pure]
    congr 2
    simp [List.extract_eq_take_drop]

theorem eqFK_spec {d : Nat} {E : TypeId → Value → Value → (Bool → Prop) → Prop} (hE : ∀ t X Y K, E t X Y K → ∃ b, K b ∧ ∀ w, (Op.equalIn d t X Y).run P w = .ok b w) {xs ys : List Value} :
    ∀ {fs : List Field} {K : Bool → Prop}, eqFK P E xs ys fs K → ∃ b, K b ∧ ∀ w, (Op.eqFields d xs.toArray ys.toArray fs).run P w = .ok b w
  | [], K, h => ⟨true, h, fun w => rfl⟩
  | f :: fs, K, h => by
    unfold eqFK at h
    split at h
    · rename_i hn
      obtain ⟨b, h1, h2⟩ := eqFK_spec hE h
      exact ⟨b, h1, fun w => by simp only [Op.eqFields, hn, ne_eq, not_true_eq_false, if_false]; exact h2 w⟩
    · rename_i hn
      obtain ⟨a, h, ha⟩ := partVK_spec h
      obtain ⟨b, h, hb⟩ := partVK_spec h
      obtain ⟨r, h, hr⟩ := hE _ _ _ _ h
      obtain ⟨r2, h, hr2⟩ := eqFK_spec hE h
      refine ⟨_, h, fun w => ?_⟩
      simp only [Op.eqFields, ne_eq, hn, not_false_eq_true, if_true, Sem.run_bind, ha, hb, hr, Result.andThen_ok]
      cases r
      · simp
      · simpa using hr2 w

theorem eqAK_spec {d : Nat} {el : TypeId} {E : Value → Value → (Bool → Prop) → Prop} (hE : ∀ X Y K, E X Y K → ∃ b, K b ∧ ∀ w, (Op.equalIn d el X Y).run P w = .ok b w) {n : Nat} {xs ys : List Value} :
    ∀ {c i : Nat} {K : Bool → Prop}, eqAK P E el n xs ys c i K → ∃ b, K b ∧ ∀ w, ((forIn (m := Sem) (List.range' i c) ((none, ()) : Option Bool × Unit) fun i r => do
        let __do_lift ← part el xs.toArray (i * n)
        let __do_lift_1 ← part el ys.toArray (i * n)
        let __do_lift ← Op.equalIn d el __do_lift __do_lift_1
        if (!__do_lift) = true then pure (ForInStep.done (some false, ()))
          else do pure PUnit.unit; pure (ForInStep.yield (none, ()))) >>= fun r => match r.fst with | some a => pure a | none => pure true).run P w = .ok b w
  | 0, i, K, h => ⟨true, h, fun w => by simp⟩
  | c + 1, i, K, h => by
    obtain ⟨a, h, ha⟩ := partVK_spec h
    obtain ⟨b, h, hb⟩ := partVK_spec h
    obtain ⟨r, h, hr⟩ := hE _ _ _ h
    obtain ⟨r2, h, hr2⟩ := eqAK_spec hE h
    refine ⟨_, h, fun w => ?_⟩
    have := hr2 w
    simp only [List.range'_succ, List.forIn_cons, Sem.run_bind, ha, hb, hr, Result.andThen_ok] at this ⊢
    cases r
    · simp
    · simpa using this

theorem eqVK_spec {S : List Nat} (hS : okS P S = true) : ∀ {d : Nat} {t : TypeId} {X Y : Value} {K : Bool → Prop}, eqVK P S d t X Y K → ∃ b, K b ∧ ∀ w, (Op.equalIn d t X Y).run P w = .ok b w
  | 0, _, _, _, _, h => h.elim
  | d + 1, t, X, Y, K, h => by
    unfold eqVK at h
    split at h
    · rename_i k0 ht
      split at h
      · split at h
        · rename_i hk; subst hk
          exact ⟨_, h, fun w => run_equalIn_int w d t _ _ _ _ ht⟩
        · exact h.elim
      · exact h.elim
    · rename_i ht
      split at h
      · exact ⟨_, h, fun w => run_equalIn_bool' w d t _ _ ht⟩
      · exact h.elim
    · rename_i ht
      split at h
      · exact ⟨_, h, fun w => run_equalIn_string w d t _ _ ht⟩
      · exact h.elim
    · rename_i fs ht
      split at h
      · rename_i xs ys
        obtain ⟨hs, h⟩ := bif_elim h
        have hs : P.stoodInHeld t = false := by
          have := List.all_eq_true.1 hS t (memS_mem hs)
          simp only [Bool.and_eq_true, Bool.not_eq_true'] at this
          exact this.1
        obtain ⟨b, h1, h2⟩ := eqFK_spec (d := d) (fun t X Y K h => eqVK_spec hS h) h
        have hf : P.fieldsOf t = fs := by simp [Program.fieldsOf, ht]
        refine ⟨b, h1, fun w => ?_⟩
        rw [run_equalIn_struct w d t xs ys (by rw [hf]; exact ht) hs, hf]
        simpa using h2 w
      · exact h.elim
    · rename_i len el ht
      split at h
      · rename_i xs ys
        obtain ⟨i, hi, h⟩ := sizeK_spec h
        obtain ⟨b, h1, h2⟩ := eqAK_spec (d := d) (el := el) (fun X Y K h => eqVK_spec hS h) h
        refine ⟨b, h1, fun w => ?_⟩
        have := h2 w
        simp only [Op.equalIn, Sem.run_bind, run_underlying ht, Result.andThen_ok, run_sizeOf hi]
        simp only [Std.Legacy.Range.forIn_eq_forIn_range', Std.Legacy.Range.size, Nat.sub_zero, Nat.add_sub_cancel, Nat.div_one]
        simp only [Sem.run_bind] at this ⊢
        simp at this ⊢
        rw [← this]
        congr 1
        funext a w'
        obtain ⟨a, _⟩ := a
        cases a <;> rfl
      · exact h.elim
    · exact h.elim

theorem guard_ok {S : List Nat} (hS : okS P S = true) {t : TypeId} (ht : memS t S = true) : P.eqGuardType P.depth t = false := by
  have := List.all_eq_true.1 hS t (memS_mem ht)
  simp only [Bool.and_eq_true, Bool.not_eq_true'] at this
  exact this.2
theorem RunsTo.eql {S : List Nat} {t : TypeId} {xo yo : Operand} {xs ys : Array Value} {K : Value → Prop} (hS : okS P S = true) (ht : memS t S = true) (h : eqVK P S 10000 t (.agg xs) (.agg ys) fun b => K (.bool b)) :
    RunsTo P (do eqGuard .eql t xo yo (.agg xs) (.agg ys); binOp .eql t (.agg xs) (.agg ys)) K := by
  obtain ⟨b, h1, h2⟩ := eqVK_spec hS h
  exact ⟨_, fun w => by simp only [Sem.run_bind, run_eqGuard_agg w .eql t xo yo xs ys (guard_ok hS ht), Result.andThen_ok, run_eql_struct, h2], h1⟩
theorem RunsTo.neq {S : List Nat} {t : TypeId} {xo yo : Operand} {xs ys : Array Value} {K : Value → Prop} (hS : okS P S = true) (ht : memS t S = true) (h : eqVK P S 10000 t (.agg xs) (.agg ys) fun b => K (.bool (!b))) :
    RunsTo P (do eqGuard .neq t xo yo (.agg xs) (.agg ys); binOp .neq t (.agg xs) (.agg ys)) K := by
  obtain ⟨b, h1, h2⟩ := eqVK_spec hS h
  exact ⟨_, fun w => by simp only [Sem.run_bind, run_eqGuard_agg w .neq t xo yo xs ys (guard_ok hS ht), Result.andThen_ok, run_neq_struct, h2], h1⟩
end
end Go.Lx
