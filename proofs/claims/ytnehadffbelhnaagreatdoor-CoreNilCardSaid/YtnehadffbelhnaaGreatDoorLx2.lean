/-
  The symbolic executor Lx, part 2: what one operation comes to, and that it does.
-/
import Derived.Test.YtnehadffbelhnaaGreatDoorLx1
namespace Go.Lx
open Go.RowKit

abbrev TS := List (Nat × LV)

def look (K : LV → Prop) (ts : TS) (n : Nat) : Prop :=
  List.rec (motive := fun _ => Prop) False (fun p _ ih => Prod.rec (motive := fun _ => Prop) (fun k v => Bool.rec (motive := fun _ => Prop) ih (K v) (Nat.beq k n)) p) ts

def ev (ts : TS) (K : LV → Prop) : Operand → Prop
  | .tmp t => look K ts t
  | .const x => K (.v x)
  | .global g => K (.v (.pointer (some ⟨g, 0, none⟩)))
  | .func f => K (.func (.func f) [] [])

def evs (ts : TS) : List Operand → (List LV → Prop) → Prop
  | [], K => K []
  | x :: xs, K => ev ts (fun v => evs ts xs (fun vs => K (v :: vs))) x

def getK {β : Type} (K : β → Prop) (l : List β) (n : Nat) : Prop :=
  List.rec (motive := fun _ => Nat → Prop) (fun _ => False) (fun x _ ih n => Nat.rec (motive := fun _ => Prop) (K x) (fun m _ => ih m) n) l n
def setK {β : Type} (y : β) (K : List β → Prop) (l : List β) (n : Nat) : Prop :=
  List.rec (motive := fun _ => Nat → (List β → Prop) → Prop) (fun _ _ => False) (fun x xs ih n K => Nat.rec (motive := fun _ => Prop) (K (y :: xs)) (fun m _ => ih m (fun ys => K (x :: ys))) n) l n K
def snocK {β : Type} (y : β) (l : List β) (n : Nat) (K : Nat → List β → Prop) : Prop :=
  List.rec (motive := fun _ => Nat → (Nat → List β → Prop) → Prop) (fun n K => K n [y]) (fun x _ ih n K => ih (Nat.succ n) (fun k ys => K k (x :: ys))) l n K
def dropK {β : Type} (K : List β → Prop) (l : List β) (n : Nat) : Prop :=
  Nat.rec (motive := fun _ => List β → Prop) K (fun _ ih l => List.rec (motive := fun _ => Prop) False (fun _ xs _ => ih xs) l) n l
def takeK {β : Type} (K : List β → Prop) (l : List β) (n : Nat) : Prop :=
  Nat.rec (motive := fun _ => List β → (List β → Prop) → Prop) (fun _ K => K []) (fun _ ih l K => List.rec (motive := fun _ => Prop) False (fun x xs _ => ih xs (fun ys => K (x :: ys))) l) n l K
/-- The head of a list overwritten. -/
def overK {β : Type} (K : List β → Prop) : List β → List β → Prop
  | xs, [] => K xs
  | [], _ :: _ => False
  | _ :: xs, y :: ys => overK (fun zs => K (y :: zs)) xs ys
def spliceK {β : Type} (new : List β) (K : List β → Prop) : List β → Nat → Prop
  | xs, 0 => overK K xs new
  | [], _ + 1 => False
  | x :: xs, n + 1 => spliceK new (fun ys => K (x :: ys)) xs n

/-- A fork at a Bool that is known or not. -/
def forkB (b : Bool) (T F : Prop) : Prop := match b with | true => T | false => F
theorem forkB_of {b : Bool} {T F : Prop} (h : b = true → T) (h' : b = false → F) : forkB b T F := by
  cases b
  · exact h' rfl
  · exact h rfl
theorem forkB_iff {b : Bool} {T F : Prop} : forkB b T F ↔ (b = true → T) ∧ (b = false → F) := by
  cases b <;> simp [forkB]

def sizeK (P : Program) (t : TypeId) (K : Nat → Prop) : Prop :=
  match P.info? t with
  | some i => K i.size
  | none => False
def aggK (P : Program) (t : TypeId) (K : Bool → Prop) : Prop :=
  match P.underlying t with
  | some (.struct _) => K true
  | some (.array _ _) => K true
  | some _ => K false
  | none => False

/-- The cells of a value. -/
def cellsK (K : List LV → Prop) : LV → Prop
  | .agg cs => K cs
  | .v x => match x with
    | .agg cs => K (cs.toList.map .v)
    | x => K [.v x]
  | x => K [x]
/-- All of one cell. -/
def onesK (K : Prop) : List LV → Prop
  | [] => K
  | x :: xs => match x with
    | .agg _ => False
    | .tuple _ => False
    | .v y => match y with
      | .agg _ => False
      | .tuple _ => False
      | _ => onesK K xs
    | _ => onesK K xs
def mkK (K : LV → Prop) : Bool → List LV → Prop
  | true, xs => K (.agg xs)
  | false, [x] => K x
  | false, _ => False

def loadK (P : Program) (M : Mem) (t : TypeId) (H : List LB) (K : LV → Prop) (a : LV) : Prop :=
  sizeK P t fun n => aggK P t fun g =>
    match a with
    | .ptr l off => getK (fun B => match B with
        | .cells cs _ => dropK (takeK (mkK K g) · n) cs off
        | _ => False) H l
    | .at l sz i off => getK (fun B => match B with
        | .list sz' items _ => bif Nat.beq sz sz' then M.item items i fun it => dropK (takeK (mkK K g) · n) (it.map .v) off else False
        | .rows sz' items _ => bif Nat.beq sz sz' then getK (fun it => dropK (takeK (mkK K g) · n) it off) items i else False
        | _ => False) H l
    | .v (.pointer (some ad)) => M.rd ad n (mkK K g)
    | _ => False

def countK {β : Type} : List β → Nat → (Nat → Prop) → Prop
  | [], n, K => K n
  | _ :: xs, n, K => countK xs (n + 1) K
theorem countK_spec {β : Type} : ∀ {l : List β} {n : Nat} {K : Nat → Prop}, countK l n K → K (n + l.length)
  | [], _, _, h => h
  | _ :: xs, n, K, h => by
    have := countK_spec (l := xs) h
    rw [show n + 1 + xs.length = n + (xs.length + 1) by omega] at this; exact this

theorem getK_spec {β : Type} {K : β → Prop} : ∀ {l : List β} {n : Nat}, getK K l n → ∃ x, l[n]? = some x ∧ K x
  | [], _, h => h.elim
  | x :: _, 0, h => ⟨x, rfl, h⟩
  | _ :: xs, n + 1, h => by simpa using getK_spec (l := xs) h
theorem setK_spec {β : Type} {y : β} : ∀ {l : List β} {n : Nat} {K : List β → Prop}, setK y K l n → n < l.length ∧ K (l.set n y)
  | [], _, _, h => h.elim
  | x :: xs, 0, _, h => ⟨by simp, h⟩
  | x :: xs, n + 1, K, h => by
    obtain ⟨h1, h2⟩ := setK_spec (l := xs) h
    exact ⟨by simpa using h1, h2⟩
theorem snocK_spec {β : Type} {y : β} : ∀ {l : List β} {n : Nat} {K : Nat → List β → Prop}, snocK y l n K → K (n + l.length) (l ++ [y])
  | [], n, K, h => h
  | x :: xs, n, K, h => by
    have := snocK_spec (l := xs) h
    have e : n + 1 + xs.length = n + (x :: xs).length := by simp; omega
    rw [e] at this; exact this
theorem dropK_spec {β : Type} {K : List β → Prop} : ∀ {l : List β} {n : Nat}, dropK K l n → n ≤ l.length ∧ K (l.drop n)
  | xs, 0, h => ⟨by simp, (h : K xs)⟩
  | [], _ + 1, h => h.elim
  | _ :: xs, n + 1, h => by
    obtain ⟨h1, h2⟩ := dropK_spec (l := xs) h
    exact ⟨by simpa using h1, by simpa using h2⟩
theorem takeK_spec {β : Type} : ∀ {l : List β} {n : Nat} {K : List β → Prop}, takeK K l n → n ≤ l.length ∧ K (l.take n)
  | xs, 0, K, h => ⟨by simp, by rw [List.take_zero]; exact h⟩
  | [], _ + 1, _, h => h.elim
  | x :: xs, n + 1, K, h => by
    obtain ⟨h1, h2⟩ := takeK_spec (l := xs) h
    exact ⟨by simpa using h1, by simpa using h2⟩

/-- Cells j, j + 1, .. of a list overwritten. -/
def over {β : Type} : List β → List β → List β
  | xs, [] => xs
  | [], _ => []
  | _ :: xs, y :: ys => y :: over xs ys
def splice {β : Type} (new : List β) : List β → Nat → List β
  | xs, 0 => over xs new
  | [], _ + 1 => []
  | x :: xs, n + 1 => x :: splice new xs n
theorem overK_spec {β : Type} : ∀ {new : List β} {l : List β} {K : List β → Prop}, overK K l new → new.length ≤ l.length ∧ K (over l new)
  | [], l, K, h => ⟨by simp, by cases l <;> exact h⟩
  | y :: ys, [], K, h => h.elim
  | y :: ys, x :: xs, K, h => by
    obtain ⟨h1, h2⟩ := overK_spec (new := ys) (l := xs) h
    exact ⟨by simpa using h1, h2⟩
theorem spliceK_spec {β : Type} {new : List β} : ∀ {l : List β} {n : Nat} {K : List β → Prop}, spliceK new K l n → n + new.length ≤ l.length ∧ K (splice new l n)
  | xs, 0, K, h => by
    have := overK_spec (new := new) (l := xs) (K := K) (by cases xs <;> exact h)
    exact ⟨by simpa using this.1, by cases xs <;> exact this.2⟩
  | [], _ + 1, _, h => h.elim
  | x :: xs, n + 1, K, h => by
    obtain ⟨h1, h2⟩ := spliceK_spec (l := xs) h
    exact ⟨by simp; omega, h2⟩

theorem look_spec {K : LV → Prop} : ∀ {ts : TS} {n : Nat}, look K ts n → ∃ v, ts.lookup n = some v ∧ K v
  | [], _, h => h.elim
  | (k, v) :: r, n, h => by
    have h : (Bool.rec (motive := fun _ => Prop) (look K r n) (K v) (Nat.beq k n)) := h
    by_cases e : k = n
    · subst e
      have hb : Nat.beq k k = true := Nat.beq_refl k
      rw [hb] at h
      exact ⟨v, by simp [List.lookup], h⟩
    · have hb : Nat.beq k n = false := by
        cases hb : Nat.beq k n
        · rfl
        · exact absurd (Nat.eq_of_beq_eq_true hb) e
      rw [hb] at h
      obtain ⟨u, h1, h2⟩ := look_spec (ts := r) h
      refine ⟨u, ?_, h2⟩
      have : (n == k) = false := by simp; exact fun e' => e e'.symm
      simp [List.lookup, this, h1]

/-- The frame's temporaries, as far as they are known. -/
structure Tm (e : Env) (n : Nat) (ts : TS) (a : Act) : Prop where
  tm : ∀ k x, ts.lookup k = some x → a.tmps.getD k undef = x.den e ∧ x.sc n

theorem ev_spec {e : Env} {n : Nat} {ts : TS} {a : Act} (h : Tm e n ts a) {K : LV → Prop} : ∀ {x : Operand}, ev ts K x → ∃ y, K y ∧ a.eval x = y.den e ∧ y.sc n
  | .tmp t, hk => by
    obtain ⟨y, h1, h2⟩ := look_spec hk
    exact ⟨y, h2, (h.tm t y h1).1, (h.tm t y h1).2⟩
  | .const x, hk => ⟨.v x, hk, rfl, trivial⟩
  | .global g, hk => ⟨_, hk, rfl, trivial⟩
  | .func f, hk => ⟨_, hk, by simp [Act.eval, LV.den, denL], by simp [LV.sc, scL]⟩

theorem evs_spec {e : Env} {n : Nat} {ts : TS} {a : Act} (h : Tm e n ts a) : ∀ {xs : List Operand} {K : List LV → Prop}, evs ts xs K → ∃ ys, K ys ∧ xs.map a.eval = denL e ys ∧ scL n ys
  | [], K, hk => ⟨[], hk, rfl, trivial⟩
  | x :: xs, K, hk => by
    obtain ⟨y, h1, h2, h3⟩ := ev_spec h hk
    obtain ⟨ys, k1, k2, k3⟩ := evs_spec h h1
    exact ⟨y :: ys, k1, by simp [denL, h2, k2], ⟨h3, k3⟩⟩

theorem denL_length (e : Env) : ∀ l : List LV, (denL e l).length = l.length
  | [] => rfl
  | _ :: l => by simp [denL, denL_length e l]
theorem denL_getElem? (e : Env) : ∀ (l : List LV) (i : Nat), (denL e l)[i]? = (l[i]?).map (LV.den e)
  | [], i => by simp [denL]
  | x :: l, 0 => by simp [denL]
  | x :: l, i + 1 => by simp [denL, denL_getElem? e l i]
theorem denL_append (e : Env) (l l' : List LV) : denL e (l ++ l') = denL e l ++ denL e l' := by simp [denL_eq_map]
theorem denL_take (e : Env) (l : List LV) (n : Nat) : denL e (l.take n) = (denL e l).take n := by simp [denL_eq_map]
theorem denL_drop (e : Env) (l : List LV) (n : Nat) : denL e (l.drop n) = (denL e l).drop n := by simp [denL_eq_map]
theorem denL_v (e : Env) (l : List Value) : denL e (l.map .v) = l := by
  induction l with
  | nil => rfl
  | cons x l ih => simp [denL, LV.den, ih]
theorem scL_take {n k : Nat} {l : List LV} (h : scL n l) : scL n (l.take k) := by
  rw [scL_iff] at h ⊢; exact fun x hx => h x (List.mem_of_mem_take hx)
theorem scL_drop {n k : Nat} {l : List LV} (h : scL n l) : scL n (l.drop k) := by
  rw [scL_iff] at h ⊢; exact fun x hx => h x (List.mem_of_mem_drop hx)
theorem scL_v (n : Nat) (l : List Value) : scL n (l.map .v) := by
  rw [scL_iff]; intro x hx; obtain ⟨y, _, rfl⟩ := List.mem_map.1 hx; trivial
theorem denL_over (e : Env) : ∀ (l new : List LV), denL e (over l new) = over (denL e l) (denL e new)
  | xs, [] => by cases xs <;> simp [over, denL]
  | [], y :: ys => by simp [over, denL]
  | x :: xs, y :: ys => by simp [over, denL, denL_over e xs ys]
theorem denL_splice (e : Env) (new : List LV) : ∀ (l : List LV) (n : Nat), denL e (splice new l n) = splice (denL e new) (denL e l) n
  | xs, 0 => by cases xs <;> simp [splice, denL, denL_over]
  | [], _ + 1 => by simp [splice, denL]
  | x :: xs, n + 1 => by simp [splice, denL, denL_splice e new xs n]
theorem scL_over {n : Nat} : ∀ {l new : List LV}, scL n l → scL n new → scL n (over l new)
  | xs, [], h, _ => by cases xs <;> exact h
  | [], _ :: _, _, _ => trivial
  | _ :: xs, y :: ys, h, k => ⟨k.1, scL_over h.2 k.2⟩
theorem scL_splice {n : Nat} {new : List LV} (k : scL n new) : ∀ {l : List LV} {i : Nat}, scL n l → scL n (splice new l i)
  | xs, 0, h => by cases xs <;> exact scL_over h k
  | [], _ + 1, _ => trivial
  | x :: xs, i + 1, h => ⟨h.1, scL_splice k h.2⟩
theorem over_length {β : Type} : ∀ (l new : List β), (over l new).length = l.length
  | xs, [] => by cases xs <;> rfl
  | [], _ :: _ => rfl
  | x :: xs, y :: ys => by simp [over, over_length xs ys]
theorem splice_length {β : Type} (new : List β) : ∀ (l : List β) (n : Nat), (splice new l n).length = l.length
  | xs, 0 => by cases xs <;> exact over_length _ _
  | [], _ + 1 => rfl
  | x :: xs, n + 1 => by simp [splice, splice_length new xs n]

/-! ### Runs of the model's small words -/
section runs
variable {P : Program} {w : World}
theorem run_sizeOf {t : TypeId} {i : TypeInfo} (h : P.info? t = some i) : (sizeOf t).run P w = .ok i.size w := by
  simp [sizeOf, typeInfo, h]
theorem run_underlying {t : TypeId} {d : TypeDesc} (h : P.underlying t = some d) : (underlying t).run P w = .ok d w := by
  simp [underlying, h]
theorem run_typeInfo {t : TypeId} {i : TypeInfo} (h : P.info? t = some i) : (typeInfo t).run P w = .ok i w := by
  simp [typeInfo, h]

def aggOf : TypeDesc → Bool
  | .struct _ | .array _ _ => true
  | _ => false
theorem run_isAgg {t : TypeId} {d : TypeDesc} (h : P.underlying t = some d) : (isAgg t).run P w = .ok (aggOf d) w := by
  simp only [isAgg, Sem.run_bind, run_underlying h, Result.andThen_ok]
  cases d <;> rfl
theorem aggK_spec {t : TypeId} {K : Bool → Prop} (h : aggK P t K) : ∃ d, P.underlying t = some d ∧ K (aggOf d) := by
  unfold aggK at h
  split at h
  · rename_i d hd; exact ⟨_, hd, h⟩
  · rename_i d hd; exact ⟨_, hd, h⟩
  · rename_i d h1 h2 hd
    refine ⟨d, hd, ?_⟩
    have : aggOf d = false := by
      cases d <;> first | rfl | (exact absurd rfl (h1 _)) | (exact absurd rfl (h2 _ _))
    rw [this]; exact h
  · exact h.elim
theorem sizeK_spec {t : TypeId} {K : Nat → Prop} (h : sizeK P t K) : ∃ i, P.info? t = some i ∧ K i.size := by
  unfold sizeK at h
  split at h
  · rename_i i hi; exact ⟨i, hi, h⟩
  · exact h.elim

theorem run_loadVar {t : TypeId} {i : TypeInfo} {d : TypeDesc} (hi : P.info? t = some i) (hd : P.underlying t = some d) (a : Addr) (us : List Value)
    (hn : us.length = i.size) (hc : ∀ j u, us[j]? = some u → w.cell? (a.add j) = some u) {y : Value}
    (hy : (aggOf d = true ∧ y = .agg us.toArray) ∨ (aggOf d = false ∧ us = [y])) : (loadVar t a).run P w = .ok y w := by
  rcases hy with ⟨hg, rfl⟩ | ⟨hg, rfl⟩
  · simp only [loadVar, Sem.run_bind, run_isAgg hd, Result.andThen_ok, hg, if_true, run_sizeOf hi]
    rw [← hn, run_loadCells_list w a us hc]
    simp
  · have := hc 0 y rfl
    have h0 : a.add 0 = a := by simp [Addr.add]
    rw [h0] at this
    simp only [loadVar, Sem.run_bind, run_isAgg hd, Result.andThen_ok, hg]
    simp [this]

theorem mkK_spec {K : LV → Prop} {g : Bool} {xs : List LV} (h : mkK K g xs) : ∃ y, K y ∧ ∀ e n, scL n xs → y.sc n ∧
    ((g = true ∧ y.den e = .agg (denL e xs).toArray) ∨ (g = false ∧ denL e xs = [y.den e])) := by
  cases g
  · match xs, h with
    | [x], h => exact ⟨x, h, fun e n hs => ⟨hs.1, .inr ⟨rfl, by simp [denL]⟩⟩⟩
  · exact ⟨.agg xs, h, fun e n hs => ⟨hs, .inl ⟨rfl, by simp [LV.den]⟩⟩⟩
end runs

theorem addr_add (b off j : Nat) : (⟨b, off, none⟩ : Addr).add j = ⟨b, off + j, none⟩ := by
  unfold Addr.add; split <;> simp_all

/-- Where the cells of item i of a list lie. -/
theorem flatten_item {items : List (List Value)} {sz i j : Nat} {it : List Value} {u : Value} (hl : ∀ x ∈ items, x.length = sz)
    (hi : items[i]? = some it) (hj : it[j]? = some u) : items.flatten[i * sz + j]? = some u := by
  induction items generalizing i with
  | nil => simp at hi
  | cons x xs ih =>
    have hx := hl x (by simp)
    cases i with
    | zero =>
      simp at hi; subst hi
      have hlt := (List.getElem?_eq_some_iff.1 hj).1
      simp only [List.flatten_cons, Nat.zero_mul, Nat.zero_add]
      rw [List.getElem?_append_left hlt]; exact hj
    | succ i =>
      simp only [List.getElem?_cons_succ] at hi
      simp only [List.flatten_cons]
      rw [List.getElem?_append_right (by rw [hx, Nat.succ_mul]; omega)]
      have := ih (fun y hy => hl y (by simp [hy])) hi
      rw [← this]; congr 1; rw [hx, Nat.succ_mul]; omega

theorem bif_elim {b : Bool} {K : Prop} (h : bif b then K else False) : b = true ∧ K := by cases b; exact h.elim; exact ⟨rfl, h⟩
theorem loadK_spec {P : Program} {M : Mem} {t : TypeId} {H : List LB} {K : LV → Prop} {a : LV} (h : loadK P M t H K a) :
    ∃ y, K y ∧ ∀ e own w, Sat M e own w H → a.sc H.length → y.sc H.length ∧ (Instr.loadAt t (a.den e)).run P w = .ok (y.den e) w := by
  obtain ⟨i, hi, h⟩ := sizeK_spec h
  obtain ⟨d, hd, h⟩ := aggK_spec h
  have fin : ∀ (xs : List LV), mkK K (aggOf d) xs → ∃ y, K y ∧ ∀ e own w (ad : Addr), Sat M e own w H → scL H.length xs → xs.length = i.size →
      (∀ j u, (denL e xs)[j]? = some u → w.cell? (ad.add j) = some u) → y.sc H.length ∧ (Instr.loadAt t (.pointer (some ad))).run P w = .ok (y.den e) w := by
    intro xs hk
    obtain ⟨y, hy, hall⟩ := mkK_spec hk
    refine ⟨y, hy, fun e own w ad hs hsc hn hc => ?_⟩
    obtain ⟨h1, h2⟩ := hall e H.length hsc
    refine ⟨h1, ?_⟩
    simp only [Instr.loadAt, Instr.sureAddr, Sem.run_bind, Sem.run_pure, Result.andThen_ok]
    refine run_loadVar hi hd ad (denL e xs) (by rw [denL_length, hn]) hc ?_
    rcases h2 with ⟨g, h2⟩ | ⟨g, h2⟩
    · exact .inl ⟨g, h2⟩
    · exact .inr ⟨g, h2⟩
  match a, h with
  | .ptr l off, h =>
    obtain ⟨B, hB, h⟩ := getK_spec h
    match B, hB, h with
    | .cells cs ty, hB, h =>
      obtain ⟨h1, h⟩ := dropK_spec h
      obtain ⟨h2, h⟩ := takeK_spec h
      obtain ⟨y, hy, hall⟩ := fin _ h
      refine ⟨y, hy, fun e own w hs _ => ?_⟩
      obtain ⟨⟨_, hb⟩, hsc⟩ := hs.bl l _ hB
      refine hall e own w ⟨e.b l, off, none⟩ hs (scL_take (scL_drop hsc)) (by simp at h2 ⊢; omega) (fun j u hu => ?_)
      rw [addr_add, cell_of_row w _ _ _ _ _ hb]
      rw [denL_take, denL_drop, List.getElem?_take] at hu
      split at hu
      · rw [List.getElem?_drop] at hu; simpa using hu
      · cases hu
  | .at l sz idx off, h =>
    obtain ⟨B, hB, h⟩ := getK_spec h
    have key : ∀ (e : Env) (own : Nat → Nat → Prop) (w : World) (items : List (List Value)) (ty : TypeId) (it : List Value), (LB.list sz items ty).sat e l (own l) w → items[idx]? = some it →
        ∀ j u, ((it.drop off).take i.size)[j]? = some u → w.cell? ((⟨e.b l, idx * sz + off, none⟩ : Addr).add j) = some u := by
      intro e own w items ty it hsat hit j u hu
      obtain ⟨h3, h4, h5, h6⟩ := hsat
      rw [List.getElem?_take] at hu
      split at hu
      · rw [List.getElem?_drop] at hu
        have hf := flatten_item h5 hit hu
        have hne : (e.s l).ownBlock ≠ none := by
          intro hnone
          rcases h6.2 with ⟨_, h0⟩ | ⟨g, cap, cur, hv, _⟩
          · have := (List.getElem?_eq_some_iff.1 hit).1; omega
          · rw [hv] at hnone; simp [Value.ownBlock] at hnone
        have := h6.cells (h4 hne) (idx * sz + (off + j)) u hf
        rw [addr_add] at this ⊢
        rw [← this]; congr 2; omega
      · cases hu
    match B, hB, h with
    | .list sz' items ty, hB, h =>
      obtain ⟨hsz, h9⟩ := bif_elim h
      have hsz := Nat.eq_of_beq_eq_true hsz
      clear h
      subst hsz
      obtain ⟨it, hit, h⟩ := (M.itemOk h9).out
      obtain ⟨h1, h⟩ := dropK_spec h
      obtain ⟨h2, h⟩ := takeK_spec h
      obtain ⟨y, hy, hall⟩ := fin _ h
      refine ⟨y, hy, fun e own w hs _ => ?_⟩
      refine hall e own w ⟨e.b l, idx * sz + off, none⟩ hs (scL_take (scL_drop (scL_v _ _))) (by simp at h2 ⊢; omega) (fun j u hu => ?_)
      rw [denL_take, denL_drop, denL_v] at hu
      exact key e own w items ty it (hs.bl l _ hB).1 hit j u hu
    | .rows sz' items ty, hB, h =>
      obtain ⟨hsz, h9⟩ := bif_elim h
      have hsz := Nat.eq_of_beq_eq_true hsz
      clear h
      subst hsz
      obtain ⟨it, hit, h⟩ := getK_spec h9
      obtain ⟨h1, h⟩ := dropK_spec h
      obtain ⟨h2, h⟩ := takeK_spec h
      obtain ⟨y, hy, hall⟩ := fin _ h
      refine ⟨y, hy, fun e own w hs _ => ?_⟩
      obtain ⟨hsat, hsc⟩ := hs.bl l _ hB
      refine hall e own w ⟨e.b l, idx * sz + off, none⟩ hs (scL_take (scL_drop (hsc it (List.mem_of_getElem? hit)))) (by simp at h2 ⊢; omega) (fun j u hu => ?_)
      rw [denL_take, denL_drop] at hu
      exact key e own w _ ty (denL e it) (LB.rows_sat.1 hsat) (by rw [List.getElem?_map, hit]; rfl) j u hu
  | .v (.pointer (some ad)), h =>
    obtain ⟨us, hn, hM, h⟩ := (M.rdOk h).out
    obtain ⟨y, hy, hall⟩ := fin _ h
    refine ⟨y, hy, fun e own w hs _ => ?_⟩
    exact hall e own w ad hs (scL_v _ _) (by simpa using hn) (fun j u hu => by
      rw [denL_v] at hu; exact (hs.ro _ _ (hM j u hu)).1)
end Go.Lx
