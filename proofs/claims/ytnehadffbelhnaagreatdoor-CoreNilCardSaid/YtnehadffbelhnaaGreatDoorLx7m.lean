/-
  The symbolic executor Lx, part 7m: maps.
-/
import Derived.Test.YtnehadffbelhnaaGreatDoorLx7b
import Derived.RangeFuncRecord
namespace Go.Lx
open Go.RowKit

def keyTy : TypeDesc → Bool
  | .int _ => true
  | .string => true
  | .bool => true
  | _ => false
def findMK (d : TypeDesc) (k : Value) (no : Prop) (yes : Nat → ME → Prop) : List ME → Nat → Prop
  | [], _ => no
  | m :: r, i => match Instr.sameNow d k m.key with
    | some b => forkB b (yes i m) (findMK d k no yes r (i + 1))
    | none => False
theorem findMK_spec {d : TypeDesc} {k : Value} {no : Prop} {yes : Nat → ME → Prop} : ∀ {es : List ME} {i : Nat}, findMK d k no yes es i →
    (no ∧ ∀ e, Instr.findNow d k (es.map (ME.den e)) i = some none) ∨
    ∃ j m, es[j]? = some m ∧ yes (i + j) m ∧ Instr.sameNow d k m.key = some true ∧ ∀ e, Instr.findNow d k (es.map (ME.den e)) i = some (some (i + j, m.val.den e))
  | [], i, h => .inl ⟨h, fun e => rfl⟩
  | m :: r, i, h => by
    unfold findMK at h
    split at h
    · rename_i b hb
      cases b
      · rcases findMK_spec (es := r) h with ⟨h1, h2⟩ | ⟨j, m', h1, h2, h3, h4⟩
        · refine .inl ⟨h1, fun e => ?_⟩
          simp only [List.map_cons, Instr.findNow, ME.den, hb]
          exact h2 e
        · refine .inr ⟨j + 1, m', by simpa using h1, by rw [show i + (j + 1) = i + 1 + j by omega]; exact h2, h3, fun e => ?_⟩
          simp only [List.map_cons, Instr.findNow, ME.den, hb]
          rw [show i + (j + 1) = i + 1 + j by omega]
          exact h4 e
      · exact .inr ⟨0, m, rfl, h, hb, fun e => by simp only [List.map_cons, Instr.findNow, ME.den, hb]; rfl⟩
    · exact h.elim

section
variable {P : Program}
theorem run_checkKey_n {kt : TypeId} {d : TypeDesc} (hd : P.underlying kt = some d) (hk : keyTy d = true) (b : Bool) (k : Value) (w : World) (n : Nat) : (Instr.checkKey b (n + 1) kt k).run P w = .ok () w := by
  simp only [Instr.checkKey, Sem.run_bind, run_underlying hd, Result.andThen_ok]
  cases d <;> simp [keyTy] at hk <;> cases k <;> rfl
theorem run_checkKey {kt : TypeId} {d : TypeDesc} (hd : P.underlying kt = some d) (hk : keyTy d = true) (b : Bool) (k : Value) (w : World) : (Instr.checkKey b 10000 kt k).run P w = .ok () w := run_checkKey_n hd hk b k w 9999
theorem run_findKey {kt : TypeId} {d : TypeDesc} (hd : P.underlying kt = some d) {k : Value} {es : List MapEntry} {r : Option (Nat × Value)} (h : Instr.findNow d k es 0 = some r) (w : World) :
    (Instr.findKey kt k es).run P w = .ok r w := by
  simp only [Instr.findKey, Sem.run_bind, run_underlying hd, Result.andThen_ok, h, Sem.run_pure]
theorem run_getMap {b : Nat} {es : Array MapEntry} {c : Nat} {w : World} (h : w.heap[b]? = some (.map es c)) : (getObj b).run P w = .ok (.map es c) w := by simp [getObj, Sem.run, h]
theorem run_setMap {b : Nat} {es : Array MapEntry} {c : Nat} {w : World} (h : w.heap[b]? = some (.map es c)) (o : Obj) : (setObj b o).run P w = .ok () (w.putObj b o) := by simp [setObj, Sem.run, h, World.putObj]
theorem run_keyStays {d : TypeDesc} {k k' : Value} (h : Instr.sameNow d k k' = some true) (w : World) : (Instr.keyThatStays k' k).run P w = .ok k w := by
  have : Instr.sameBits 10000 k' k = true := by
    unfold Instr.sameNow at h
    split at h
    · split at h
      · rename_i hk; subst hk
        simp at h; subst h
        simp [Instr.sameBits]
      · cases h
    · rename_i a b
      have h1 : (a == b) = true := by simpa using h
      have h2 : a.data = b.data := eq_of_beq h1
      have h3 : a = b := by cases a; cases b; simp at h2; rw [h2]
      subst h3
      exact h1
    · simp at h; subst h; simp [Instr.sameBits]
    · cases h
  simp [Instr.keyThatStays, this]

def mapTyK (P : Program) (t : TypeId) (K : TypeDesc → TypeId → Prop) : Prop :=
  match P.underlying t with
  | some (.map kt el) => (match P.underlying kt with
    | some d => bif keyTy d then K d el else False
    | none => False)
  | _ => False
theorem mapTyK_spec {t : TypeId} {K : TypeDesc → TypeId → Prop} (h : mapTyK P t K) : ∃ kt el d, P.underlying t = some (.map kt el) ∧ P.underlying kt = some d ∧ keyTy d = true ∧ K d el := by
  unfold mapTyK at h
  split at h
  · rename_i kt el ht
    split at h
    · rename_i d hd
      obtain ⟨h1, h2⟩ := bif_elim h
      exact ⟨kt, el, d, ht, hd, h1, h2⟩
    · exact h.elim
  · exact h.elim

/-- The map's value, at a location, or nil. -/
def mapAtK (x : LV) (H : List LB) (nil_ : Prop) (K : Nat → List ME → Nat → Prop) : Prop :=
  match x with
  | .root l => getK (fun B => match B with
    | .map es c => K l es c
    | _ => False) H l
  | .v y => (match y with
    | .map r => (match r with
      | none => nil_
      | some _ => False)
    | _ => False)
  | _ => False
theorem mapAtK_spec {x : LV} {H : List LB} {nil_ : Prop} {K : Nat → List ME → Nat → Prop} (h : mapAtK x H nil_ K) :
    (x = .v (.map none) ∧ nil_) ∨ ∃ l es c, x = .root l ∧ H[l]? = some (.map es c) ∧ K l es c := by
  unfold mapAtK at h
  split at h
  · rename_i l
    obtain ⟨B, hB, h⟩ := getK_spec h
    split at h
    · exact .inr ⟨l, _, _, rfl, hB, h⟩
    · exact h.elim
  · split at h
    · split at h
      · exact .inl ⟨rfl, h⟩
      · exact h.elim
    · exact h.elim
  · exact h.elim

variable {M : Mem} {H : List LB}
def makeMapK (P : Program) (t : TypeId) (r : Option LV) (H : List LB) (K : LV → List LB → Prop) : Prop :=
  match r with
  | none => snocK (.map [] 0) H 0 fun n H' => K (.root n) H'
  | some v => (match P.underlying t with
    | some (.map _ _) => intLK (fun _ _ => snocK (.map [] 0) H 0 fun n H' => K (.root n) H') v
    | _ => False)
theorem snocMap_sat {e : Env} {own : Nat → Nat → Prop} {w : World} (hs : Sat M e own w H) :
    Agree e (e.push H.length w.heap.size (.map (some w.heap.size))) H.length ∧
    Sat M (e.push H.length w.heap.size (.map (some w.heap.size))) (ownPush own H.length (fun k => k = w.heap.size)) (w.alloc (.map #[] 0)) (H ++ [.map [] 0]) ∧
    Ext own w (ownPush own H.length (fun k => k = w.heap.size)) (w.alloc (.map #[] 0)) := by
  refine ⟨e.push_agree _ _ _, ?_, Ext.push (Below.alloc (Below.refl _ _) (Nat.le_refl _) _) (fun k hk => by omega)⟩
  refine hs.push (by simp) (fun k hk => Below.heap_alloc _ _ _ hk) (fun k hk => by simp; omega) ⟨by simp [Env.push], fun k => by simp [Env.push], ?_⟩ (fun m hm => by cases hm) rfl
  simp only [Env.push, if_true]
  exact World.alloc_heap_new _ _
theorem makeMapK_spec {t : TypeId} {r : Option LV} {K : LV → List LB → Prop} (h : makeMapK P t r H K) :
    MemOk P M H True (fun e => Instr.makeMap t (r.map (LV.den e))) K := by
  have key : K (.root H.length) (H ++ [.map [] 0]) → (∀ (e : Env) (w : World), (Instr.makeMap t (r.map (LV.den e))).run P w = .ok (.map (some w.heap.size)) (w.alloc (.map #[] 0))) → MemOk P M H True (fun e => Instr.makeMap t (r.map (LV.den e))) K := fun hk hr => by
    refine ⟨_, _, hk, by simp, fun e own w hs _ => ?_⟩
    obtain ⟨h1, h2, h3⟩ := snocMap_sat hs
    exact ⟨_, _, _, h1, h2, h3, by simp [LV.sc], by rw [hr]; simp [LV.den, Env.push]⟩
  unfold makeMapK at h
  split at h
  · exact key (snocK_len h) fun e w => by
      simp only [Option.map_none, Instr.makeMap, Sem.run_bind, Sem.run_pure, Result.andThen_ok]
      rw [run_newObj_alloc]; rfl
  · rename_i v
    split at h
    · rename_i kt el ht
      obtain ⟨k, n, h, rfl⟩ := intLK_spec h
      exact key (snocK_len h) fun e w => by
        simp only [Option.map_some, Instr.makeMap, LV.den, Sem.run_bind, run_underlying ht, Sem.run_pure, Result.andThen_ok, asInt, asIntOf]
        rw [run_newObj_alloc]; rfl
    · exact h.elim

def lookupK (P : Program) (t : TypeId) (x k : LV) (ok : Bool) (H : List LB) (K : LV → Prop) : Prop :=
  mapTyK P t fun d el => rawK (fun kv =>
    let no := assertK.zeroVK P el fun z => K (bif ok then .tuple [z, .v (.bool false)] else z)
    mapAtK x H no fun _ es _ => findMK d kv no (fun _ m => K (bif ok then .tuple [m.val, .v (.bool true)] else m.val)) es 0) k
theorem lookupK_spec {t : TypeId} {x k : LV} {ok : Bool} {K : LV → List LB → Prop} (h : lookupK P t x k ok H fun y => K y H) :
    MemOk P M H True (fun e => Instr.lookup t (x.den e) (k.den e) ok) K := by
  obtain ⟨kt, el, d, ht, hd, hkt, h⟩ := mapTyK_spec h
  obtain ⟨kv, h, hkv⟩ := rawK_spec h
  have hno : (assertK.zeroVK P el fun z => K (bif ok then .tuple [z, .v (.bool false)] else z) H) →
      (∀ z : Value, (∀ w, (zeroValue el).run P w = .ok z w) → ∀ e own w, Sat M e own w H → (Instr.lookup t (x.den e) (k.den e) ok).run P w = .ok (if ok then .tuple #[z, .bool false] else z) w) →
      MemOk P M H True (fun e => Instr.lookup t (x.den e) (k.den e) ok) K := fun hz hes => by
    obtain ⟨z, hz, hzr⟩ := zeroVK_spec hz
    refine ⟨_, H, hz, Nat.le_refl _, fun e own w hs _ => ⟨e, own, w, .refl _ _, hs, .refl _ _, by cases ok <;> simp [LV.sc, scL], ?_⟩⟩
    rw [hes z hzr e own w hs]
    cases ok <;> simp [LV.den, denL]
  rcases mapAtK_spec h with ⟨rfl, h⟩ | ⟨l, es, c, rfl, hl, h⟩
  · refine hno h fun z hz e own w hs => ?_
    simp only [Instr.lookup, Sem.run_bind, run_underlying ht, Result.andThen_ok, hkv, LV.den, Sem.run_pure, run_checkKey hd hkt, run_findKey hd (es := (#[] : Array MapEntry).toList) (r := none) rfl, hz]
  · rcases findMK_spec h with ⟨h, hn⟩ | ⟨j, m, hj, h, hsame, hf⟩
    · refine hno h fun z hz e own w hs => ?_
      obtain ⟨⟨h1, h2, h3⟩, _⟩ := hs.bl l _ hl
      simp only [Instr.lookup, Sem.run_bind, run_underlying ht, Result.andThen_ok, hkv, LV.den, h1, run_getMap h3, Sem.run_pure, run_checkKey hd hkt, run_findKey hd (hn e), hz]
    · refine ⟨_, H, h, Nat.le_refl _, fun e own w hs _ => ⟨e, own, w, .refl _ _, hs, .refl _ _, ?_, ?_⟩⟩
      · have hm : m.val.sc H.length := (hs.bl l _ hl).2 m (List.mem_of_getElem? hj)
        cases ok
        · exact hm
        · exact ⟨hm, trivial, trivial⟩
      · obtain ⟨⟨h1, h2, h3⟩, _⟩ := hs.bl l _ hl
        simp only [Instr.lookup, Sem.run_bind, run_underlying ht, Result.andThen_ok, hkv, LV.den, h1, run_getMap h3, Sem.run_pure, run_checkKey hd hkt, run_findKey hd (hf e)]
        cases ok <;> simp [LV.den, denL]

/-- What comes of a map's being another one. -/
structure PutOk (P : Program) (M : Mem) (H : List LB) (ok : Env → Prop) (s : Env → Sem Value) (l : Nat) (es : List ME) (c : Nat) (y : LV) : Prop where
  out : ∀ e own w, Sat M e own w H → ok e → (s e).run P w = .ok (y.den e) (w.putObj (e.b l) (.map (es.map (ME.den e)).toArray c))
theorem PutOk.mem {ok : Prop} {s : Env → Sem Value} {l : Nat} {es0 es : List ME} {c0 c : Nat} {y : LV} {K : LV → List LB → Prop} (hl : H[l]? = some (.map es0 c0)) (h : PutOk P M H (fun _ => True) s l es c y)
    (hsc : ok → (∀ m ∈ es0, m.val.sc H.length) → (∀ m ∈ es, m.val.sc H.length) ∧ y.sc H.length) (hk : K y (H.set l (.map es c))) : MemOk P M H ok s K := by
  refine ⟨y, _, hk, by simp, fun e own w hs ho => ?_⟩
  obtain ⟨⟨h1, h2, h3⟩, h4⟩ := hs.bl l _ hl
  obtain ⟨g1, g2⟩ := hsc ho h4
  have hlt := (Array.getElem?_eq_some_iff.1 h3).1
  have hoth : ∀ k, ¬ own l k → (w.putObj (e.b l) (.map (es.map (ME.den e)).toArray c)).heap[k]? = w.heap[k]? := fun k hk => World.putObj_heap_other fun he => hk ((h2 k).2 he)
  refine ⟨e, own, _, .refl _ _, hs.set hl (by simp) (fun k _ hk => hoth k hk) ⟨h1, h2, World.putObj_heap_same hlt⟩ g1, ⟨rfl, rfl, rfl, by simp, fun k _ hn => hoth k (hn l), fun i k hi _ => ⟨i, hi⟩⟩, by simpa using g2, h.out e own w hs trivial⟩

def updateK (P : Program) (t : TypeId) (x k v : LV) (H : List LB) (K : List LB → Prop) : Prop :=
  mapTyK P t fun d _ => rawK (fun kv => mapAtK x H False fun l es c => findMK d kv (appK (fun es' => setK (.map es' (Nat.succ c)) K H l) es [⟨kv, v, c⟩])
    (fun i m => setK ⟨kv, v, m.born⟩ (fun es' => setK (.map es' c) K H l) es i) es 0) k
theorem modify_toArray {β : Type} (l : List β) (i : Nat) (f : β → β) (x : β) (h : l[i]? = some x) : l.toArray.modify i f = (l.set i (f x)).toArray := by
  apply Array.ext
  · simp
  · intro j h1 h2
    simp only [Array.getElem_modify, List.getElem_toArray, List.getElem_set]
    by_cases hij : i = j
    · subst hij
      have := (List.getElem?_eq_some_iff.1 h).2
      simp [this]
    · simp [hij]
theorem updateK_spec {t : TypeId} {x k v : LV} {K : List LB → Prop} (h : updateK P t x k v H K) :
    MemOk P M H (v.sc H.length) (fun e => do Instr.mapUpdate t (x.den e) (k.den e) (v.den e); pure undef) fun _ H' => K H' := by
  obtain ⟨kt, el, d, ht, hd, hkt, h⟩ := mapTyK_spec h
  obtain ⟨kv, h, hkv⟩ := rawK_spec h
  rcases mapAtK_spec h with ⟨rfl, h⟩ | ⟨l, es, c, rfl, hl, h⟩
  · exact h.elim
  · rcases findMK_spec h with ⟨h, hn⟩ | ⟨j, m, hj, h, hsame, hf⟩
    · obtain ⟨_, h⟩ := setK_spec (appK_spec h)
      refine PutOk.mem (y := .v undef) hl ⟨fun e own w hs _ => ?_⟩ (fun hv hes => ⟨fun m hm => ?_, trivial⟩) h
      · obtain ⟨⟨h1, h2, h3⟩, _⟩ := hs.bl l _ hl
        simp only [Instr.mapUpdate, Sem.run_bind, run_underlying ht, Result.andThen_ok, LV.den, h1, run_getMap h3, run_checkKey hd hkt, hkv, run_findKey hd (hn e), run_setMap h3, Sem.run_pure]
        simp [ME.den]
      · rcases List.mem_append.1 hm with hm | hm
        · exact hes m hm
        · simp at hm; subst hm; exact hv
    · obtain ⟨_, h⟩ := setK_spec h
      obtain ⟨_, h⟩ := setK_spec h
      rw [Nat.zero_add] at h
      refine PutOk.mem (y := .v undef) hl ⟨fun e own w hs _ => ?_⟩ (fun hv hes => ⟨fun m' hm => ?_, trivial⟩) h
      · obtain ⟨⟨h1, h2, h3⟩, _⟩ := hs.bl l _ hl
        have hf' := hf e
        rw [Nat.zero_add] at hf'
        have hje : (es.map (ME.den e))[j]? = some (m.den e) := by simp [hj]
        have hkey : (((es.map (ME.den e)).toArray[j]?).map (·.key)).getD kv = m.key := by simp [hj, ME.den]
        simp only [Instr.mapUpdate, Sem.run_bind, run_underlying ht, Result.andThen_ok, LV.den, h1, run_getMap h3, run_checkKey hd hkt, hkv, run_findKey hd hf', hkey, run_keyStays hsame, run_setMap h3, Sem.run_pure]
        rw [modify_toArray _ _ _ _ hje]
        simp [ME.den, List.map_set]
      · rcases List.mem_or_eq_of_mem_set hm with hm | rfl
        · exact hes m' hm
        · exact hv

def eraseK {β : Type} (K : List β → Prop) : List β → Nat → Prop
  | [], _ => False
  | _ :: xs, 0 => K xs
  | x :: xs, n + 1 => eraseK (fun ys => K (x :: ys)) xs n
theorem eraseK_spec {β : Type} : ∀ {l : List β} {n : Nat} {K : List β → Prop}, eraseK K l n → n < l.length ∧ K (l.eraseIdx n)
  | [], _, _, h => h.elim
  | x :: xs, 0, _, h => ⟨by simp, h⟩
  | x :: xs, n + 1, K, h => by
    obtain ⟨h1, h2⟩ := eraseK_spec (l := xs) h
    exact ⟨by simpa using h1, h2⟩
def deleteK (P : Program) (t : TypeId) (x k : LV) (H : List LB) (K : LV → List LB → Prop) : Prop :=
  mapTyK P t fun d _ => rawK (fun kv => mapAtK x H False fun l es c => findMK d kv (K (.v (.tuple #[])) H)
    (fun i _ => eraseK (fun es' => setK (.map es' c) (K (.v (.tuple #[]))) H l) es i) es 0) k
theorem erase_map {β γ : Type} (f : β → γ) : ∀ (l : List β) (i : Nat), (l.map f).eraseIdx i = (l.eraseIdx i).map f
  | [], _ => rfl
  | _ :: _, 0 => rfl
  | x :: l, i + 1 => by simp [erase_map f l i]
theorem erase_toArray {β : Type} (l : List β) (i : Nat) (h : i < l.length) : l.toArray.eraseIdxIfInBounds i = (l.eraseIdx i).toArray := by
  simp [Array.eraseIdxIfInBounds, h]
theorem putObj_self {w : World} {b : Nat} {o : Obj} (h : w.heap[b]? = some o) : w.putObj b o = w := by
  obtain ⟨hlt, he⟩ := Array.getElem?_eq_some_iff.1 h
  subst he
  have : w.heap.setIfInBounds b w.heap[b] = w.heap := by
    apply Array.ext
    · simp
    · intro j h1 h2
      rw [Array.getElem_setIfInBounds]
      · split
        · rename_i hbj; subst hbj; rfl
        · rfl
  simp only [World.putObj, this]
theorem deleteK_spec {t t2 ty : TypeId} {x k : LV} {K : LV → List LB → Prop} (h : deleteK P t x k H K) :
    MemOk P M H True (fun e => Builtin.delete_ #[t, t2] ty #[x.den e, k.den e]) K := by
  obtain ⟨kt, el, d, ht, hd, hkt, h⟩ := mapTyK_spec h
  obtain ⟨kv, h, hkv⟩ := rawK_spec h
  rcases mapAtK_spec h with ⟨rfl, h⟩ | ⟨l, es, c, rfl, hl, h⟩
  · exact h.elim
  · rcases findMK_spec h with ⟨h, hn⟩ | ⟨j, m, hj, h, hsame, hf⟩
    · refine ⟨_, _, h, Nat.le_refl _, fun e own w hs _ => ⟨e, own, w, .refl _ _, hs, .refl _ _, trivial, ?_⟩⟩
      obtain ⟨⟨h1, h2, h3⟩, _⟩ := hs.bl l _ hl
      simp [Builtin.delete_, Sem.run_bind, run_underlying ht, Result.andThen_ok, LV.den, h1, run_getMap h3, run_checkKey hd hkt, hkv, run_findKey hd (hn e), run_setMap h3, Sem.run_pure, putObj_self h3]
    · obtain ⟨hlt, h⟩ := eraseK_spec h
      obtain ⟨_, h⟩ := setK_spec h
      rw [Nat.zero_add] at h hlt
      refine PutOk.mem (y := .v (.tuple #[])) hl ⟨fun e own w hs _ => ?_⟩ (fun hv hes => ⟨fun m' hm => hes m' (List.mem_of_mem_eraseIdx hm), trivial⟩) h
      obtain ⟨⟨h1, h2, h3⟩, _⟩ := hs.bl l _ hl
      have hf' := hf e
      rw [Nat.zero_add] at hf'
      simp only [Builtin.delete_, List.getElem?_toArray, List.getElem?_cons_zero, List.getElem?_cons_succ, Sem.run_bind, run_underlying ht, Result.andThen_ok, LV.den, h1, run_getMap h3, run_checkKey hd hkt, hkv, run_findKey hd hf', run_setMap h3, Sem.run_pure]
      rw [erase_toArray _ _ (by simpa using hlt), erase_map]

def mapLenK (P : Program) (t : TypeId) (x : LV) (H : List LB) (K : LV → Prop) : Prop :=
  mapTyK P t fun _ _ => mapAtK x H (K (.v (.int .i64 0))) fun _ es _ => countK es 0 fun c => K (.v (.int .i64 (c : Int)))
theorem mapLenK_spec {t ty : TypeId} {x : LV} {K : LV → List LB → Prop} (h : mapLenK P t x H fun y => K y H) : MemOk P M H True (fun e => Builtin.len_ #[t] ty #[x.den e]) K := by
  obtain ⟨kt, el, d, ht, hd, hkt, h⟩ := mapTyK_spec h
  rcases mapAtK_spec h with ⟨rfl, h⟩ | ⟨l, es, c, rfl, hl, h⟩
  · refine ⟨_, H, h, Nat.le_refl _, fun e own w hs _ => ⟨e, own, w, .refl _ _, hs, .refl _ _, trivial, ?_⟩⟩
    simp [Builtin.len_, run_underlying ht, LV.den, goInt]
  · have h := countK_spec h
    refine ⟨_, H, h, Nat.le_refl _, fun e own w hs _ => ⟨e, own, w, .refl _ _, hs, .refl _ _, trivial, ?_⟩⟩
    obtain ⟨⟨h1, h2, h3⟩, _⟩ := hs.bl l _ hl
    simp [Builtin.len_, run_underlying ht, LV.den, goInt, h1, run_getMap h3]
end
end Go.Lx
