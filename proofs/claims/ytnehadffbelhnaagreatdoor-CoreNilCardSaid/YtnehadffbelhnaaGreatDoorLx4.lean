/-
  The symbolic executor Lx, part 4: operations on memory.
-/
import Derived.Test.YtnehadffbelhnaaGreatDoorLx3
namespace Go.Lx
open Go.RowKit

/-- What an operation on memory comes to. -/
structure MemOk (P : Program) (M : Mem) (H : List LB) (ok : Prop) (s : Env → Sem Value) (K : LV → List LB → Prop) : Prop where
  out : ∃ y H', K y H' ∧ H.length ≤ H'.length ∧ ∀ e own w, Sat M e own w H → ok → ∃ e' own' w', Agree e e' H.length ∧ Sat M e' own' w' H' ∧ Ext own w own' w' ∧
    y.sc H'.length ∧ (s e).run P w = .ok (y.den e') w'

theorem ValOk.mem {P : Program} {M : Mem} {H : List LB} {ok : Prop} {s : Env → Sem Value} {K : LV → List LB → Prop} (h : ValOk P M H ok s (fun y => K y H)) : MemOk P M H ok s K := by
  obtain ⟨y, h1, h2⟩ := h.out
  exact ⟨y, H, h1, Nat.le_refl _, fun e own w hs ho => ⟨e, own, w, .refl _ _, hs, .refl _ _, (h2 e own w hs ho).1, (h2 e own w hs ho).2 w⟩⟩

theorem snoc_sat {M : Mem} {e : Env} {own : Nat → Nat → Prop} {w : World} {H : List LB} (hs : Sat M e own w H) (cs : List LV) (ty : TypeId) (hc : scL H.length cs) :
    Agree e (e.push H.length w.heap.size (.bool false)) H.length ∧
    Sat M (e.push H.length w.heap.size (.bool false)) (ownPush own H.length (fun k => k = w.heap.size)) (w.alloc (.cells (denL e cs).toArray ty)) (H ++ [.cells cs ty]) ∧
    Ext own w (ownPush own H.length (fun k => k = w.heap.size)) (w.alloc (.cells (denL e cs).toArray ty)) := by
  refine ⟨e.push_agree _ _ _, ?_, Ext.push (Below.alloc (Below.refl _ _) (Nat.le_refl _) _) (fun k hk => by omega)⟩
  refine hs.push (by simp) (fun k hk => Below.heap_alloc _ _ _ hk) (fun k hk => by simp; omega) ⟨fun k => ?_, ?_⟩ (by simp only [LB.sc]; exact scL_mono (by simp) cs hc) rfl
  · simp [Env.push]
  · have : (e.push H.length w.heap.size (.bool false)).b H.length = w.heap.size := by simp [Env.push]
    rw [this, ← denL_agree (e.push_agree H.length w.heap.size (.bool false)) cs hc]
    exact heap_alloc_new w _

theorem snocK_len {β : Type} {y : β} {l : List β} {K : Nat → List β → Prop} (h : snocK y l 0 K) : K l.length (l ++ [y]) := by
  have := snocK_spec h; simpa using this

def rawsK : List Value → (List LV → Prop) → Prop
  | [], K => K []
  | x :: xs, K => rawsK xs fun ys => K (.v x :: ys)
theorem rawsK_ok : ∀ {l : List Value} {K : List LV → Prop}, rawsK l K → K (l.map .v)
  | [], _, h => h
  | x :: xs, K, h => rawsK_ok (l := xs) h
def zeroK (P : Program) (t : TypeId) (K : List LV → Prop) : Prop :=
  match P.info? t with
  | some i => (match i.zero with
    | some z => (match z with
      | .agg cs => (match cs with
        | ⟨l⟩ => rawsK l K)
      | z => K [.v z])
    | none => False)
  | none => False
theorem zeroK_spec {P : Program} {t : TypeId} {K : List LV → Prop} (h : zeroK P t K) :
    ∃ z, (∀ w, (zeroValue t).run P w = .ok z w) ∧ K (z.cells.toList.map .v) := by
  unfold zeroK at h
  split at h
  · rename_i i hi
    split at h
    · rename_i z hz
      refine ⟨z, fun w => by simp [zeroValue, typeInfo, hi, hz], ?_⟩
      split at h
      · split at h
        simpa [Value.cells] using rawsK_ok h
      · rename_i hz2
        have : z.cells = #[z] := by cases z <;> first | rfl | exact absurd rfl (hz2 _)
        rw [this]; exact h
    · exact h.elim
  · exact h.elim

def allocK (P : Program) (t : TypeId) (H : List LB) (K : LV → List LB → Prop) : Prop :=
  zeroK P t fun zs => snocK (.cells zs t) H 0 fun n H' => K (.ptr n 0) H'
theorem allocK_spec {P : Program} {M : Mem} {t : TypeId} {H : List LB} {K : LV → List LB → Prop} (h : allocK P t H K) :
    MemOk P M H True (fun _ => Instr.alloc t true (.tuple #[])) K := by
  obtain ⟨z, hz, h⟩ := zeroK_spec h
  have h := snocK_len h
  refine ⟨_, _, h, by simp, fun e own w hs _ => ?_⟩
  obtain ⟨h1, h2, h3⟩ := snoc_sat hs (z.cells.toList.map .v) t (scL_v _ _)
  refine ⟨_, _, _, h1, h2, h3, by simp [LV.sc], ?_⟩
  simp only [Instr.alloc, Sem.run_bind, hz, Result.andThen_ok, newVar, newRow, run_newObj, Sem.run_pure, LV.den, denL_v]
  simp [Env.push]

theorem cellsK_v {K : List LV → Prop} {x : Value} (h : cellsK K (.v x)) : K (x.cells.toList.map .v) := by
  cases x <;> simpa [cellsK, Value.cells] using h
theorem cellsK_spec {K : List LV → Prop} {x : LV} (h : cellsK K x) : ∃ cs, K cs ∧ (∀ n, x.sc n → scL n cs) ∧ ∀ e : Env, (∀ i, (e.s i).oneCell' = true) → (x.den e).cells = (denL e cs).toArray := by
  cases x with
  | agg cs => exact ⟨cs, h, fun n hn => hn, fun e _ => by simp [LV.den, Value.cells]⟩
  | v x => exact ⟨_, cellsK_v h, fun n _ => scL_v _ _, fun e _ => by simp [LV.den, denL_v]⟩
  | root l =>
    refine ⟨_, h, fun n hn => ⟨hn, trivial⟩, fun e he => ?_⟩
    have := he l
    simp only [denL, LV.den]
    generalize e.s l = s at this ⊢
    cases s <;> first | rfl | (simp [Value.oneCell'] at this)
  | sub l sz p i n m =>
    refine ⟨_, h, fun n hn => ⟨hn, trivial⟩, fun e he => ?_⟩
    simp only [denL, LV.den]
    unfold subVal
    split <;> rfl
  | _ => exact ⟨_, h, fun n hn => ⟨hn, trivial⟩, fun e he => rfl⟩

def boxK (t : TypeId) (x : LV) (H : List LB) (K : LV → List LB → Prop) : Prop :=
  cellsK (fun cs => snocK (.cells cs t) H 0 fun n H' => K (.ptr n 0) H') x
theorem boxK_spec {P : Program} {M : Mem} {t : TypeId} {x : LV} {H : List LB} {K : LV → List LB → Prop} (h : boxK t x H K) :
    MemOk P M H (x.sc H.length) (fun e => Instr.box t (x.den e)) K := by
  obtain ⟨cs, h, hsc, hden⟩ := cellsK_spec h
  have h := snocK_len h
  refine ⟨_, _, h, by simp, fun e own w hs hx => ?_⟩
  obtain ⟨h1, h2, h3⟩ := snoc_sat hs cs t (hsc _ hx)
  refine ⟨_, _, _, h1, h2, h3, by simp [LV.sc], ?_⟩
  simp only [Instr.box, Sem.run_bind, Result.andThen_ok, newVar, newRow, run_newObj, Sem.run_pure, LV.den, hden e hs.one]
  simp [Env.push]

/-! ### Stores -/
theorem over_set {β : Type} (v : β) (vs : List β) : ∀ (xs : List β) (n : Nat), n < xs.length → splice (v :: vs) xs n = splice vs (xs.set n v) (n + 1)
  | x :: xs, 0, _ => by cases xs <;> cases vs <;> simp [splice, over]
  | x :: xs, n + 1, h => by simp only [splice, List.set_cons_succ]; rw [over_set v vs xs n (by simpa using h)]

theorem splice_nil {β : Type} : ∀ (cs : List β) (n : Nat), splice [] cs n = cs
  | [], n => by cases n <;> rfl
  | c :: cs, 0 => rfl
  | c :: cs, n + 1 => by simp [splice, splice_nil cs n]
theorem run_storeCells {P : Program} : ∀ (vs : List Value) (w : World) (b off i : Nat) (cs : List Value) (ty : TypeId),
    w.heap[b]? = some (.cells cs.toArray ty (0, 0)) → off + i + vs.length ≤ cs.length → (∀ v ∈ vs, v.oneCell' = true) →
    ∃ w', (storeCells ⟨b, off, none⟩ vs i).run P w = .ok () w' ∧ w'.heap[b]? = some (.cells (splice vs cs (off + i)).toArray ty (0, 0)) ∧
      w'.os = w.os ∧ w'.tape = w.tape ∧ w'.output = w.output ∧ w'.heap.size = w.heap.size ∧ ∀ k, k ≠ b → w'.heap[k]? = w.heap[k]?
  | [], w, b, off, i, cs, ty, hb, _, _ => ⟨w, rfl, by
      have : splice [] cs (off + i) = cs := by
        exact splice_nil cs _
      rw [this]; exact hb, rfl, rfl, rfl, rfl, fun _ _ => rfl⟩
  | v :: vs, w, b, off, i, cs, ty, hb, hl, h1 => by
    have hlt : off + i < cs.length := by simp at hl; omega
    have hcell : w.cell? ⟨b, off + i, none⟩ = some (cs[off + i]'hlt) := by
      rw [cell_of_row w b _ _ _ _ hb]; simp [hlt]
    have hfr : w.frozen? ⟨b, off + i, none⟩ = false := by simp [World.frozen?, hb]
    have hset : (w.setCell ⟨b, off + i, none⟩ v).heap[b]? = some (.cells (cs.set (off + i) v).toArray ty (0, 0)) := by
      simp only [World.setCell, Array.getElem?_modify, hb]
      simp
    obtain ⟨w', h2, h3, h4, h5, h6, h7, h8⟩ := run_storeCells vs (w.setCell ⟨b, off + i, none⟩ v) b off (i + 1) (cs.set (off + i) v) ty hset (by simp at hl ⊢; omega) (fun u hu => h1 u (by simp [hu]))
    refine ⟨w', ?_, ?_, h4, h5, h6, by rw [h7]; simp, fun k hk => by rw [h8 k hk]; exact Below.heap_setCell _ _ _ _ hk⟩
    · simp only [storeCells, Sem.run_bind, addr_add, run_store P w _ v _ (h1 v (by simp)), hcell, hfr]
      simpa using h2
    · rw [h3, over_set v vs cs _ hlt]; rfl

def storeK (P : Program) (M : Mem) (t : TypeId) (a x : LV) (H : List LB) (K : List LB → Prop) : Prop :=
  sizeK P t fun n => cellsK (fun vs => bif Nat.beq vs.length n then onesK (match a with
    | .ptr l off => getK (fun B => match B with
        | .cells cs ty => spliceK vs (fun cs' => setK (.cells cs' ty) K H l) cs off
        | _ => False) H l
    | .at l sz i off => getK (fun B => match B with
        | .list sz' items ty => bif Nat.beq sz sz' then rawLK (fun us => M.item items i fun it => spliceK us (fun it' => M.put items i it' fun items' => setK (.list sz items' ty) K H l) it off) vs else False
        | .rows sz' items ty => bif Nat.beq sz sz' then getK (fun it => spliceK vs (fun it' => setK it' (fun items' => setK (.rows sz items' ty) K H l) items i) it off) items i else False
        | _ => False) H l
    | _ => False) vs else False) x

theorem onesK_spec {K : Prop} : ∀ {xs : List LV}, onesK K xs → K ∧ ∀ e : Env, (∀ i, (e.s i).oneCell' = true) → ∀ v ∈ denL e xs, v.oneCell' = true
  | [], h => ⟨h, fun e _ v hv => by simp [denL] at hv⟩
  | x :: xs, h => by
    unfold onesK at h
    have fin : onesK K xs → (∀ e : Env, (∀ i, (e.s i).oneCell' = true) → (x.den e).oneCell' = true) →
        K ∧ ∀ e : Env, (∀ i, (e.s i).oneCell' = true) → ∀ v ∈ denL e (x :: xs), v.oneCell' = true := fun h hx => by
      obtain ⟨h1, h2⟩ := onesK_spec h
      refine ⟨h1, fun e he v hv => ?_⟩
      simp only [denL, List.mem_cons] at hv
      rcases hv with rfl | hv
      · exact hx e he
      · exact h2 e he v hv
    split at h
    · exact h.elim
    · exact h.elim
    · split at h
      · exact h.elim
      · exact h.elim
      · rename_i y _ h1 h2
        exact fin h (fun e _ => by cases y <;> first | rfl | exact (h1 _ rfl).elim | exact (h2 _ rfl).elim)
    · rename_i h1 h2 h3
      refine fin h (fun e he => ?_)
      cases x with
      | v y => exact absurd rfl (h3 y)
      | agg y => exact absurd rfl (h1 y)
      | tuple y => exact absurd rfl (h2 y)
      | root l => exact he l
      | sub l sz p i n m =>
        simp only [LV.den]
        unfold subVal
        split <;> rfl
      | _ => rfl

theorem splice_append {β : Type} (new : List β) : ∀ (a b : List β) (n : Nat), n + new.length ≤ a.length → splice new (a ++ b) n = splice new a n ++ b := by
  have hov : ∀ (new a b : List β), new.length ≤ a.length → over (a ++ b) new = over a new ++ b := by
    intro new
    induction new with
    | nil => intro a b _; cases a <;> cases b <;> simp [over]
    | cons y ys ih =>
      intro a b h
      cases a with
      | nil => simp at h
      | cons x xs => simp only [List.cons_append, over]; rw [ih xs b (by simpa using h)]
  intro a
  induction a with
  | nil =>
    intro b n h
    simp at h
    obtain ⟨rfl, rfl⟩ := h
    cases b <;> simp [splice, over]
  | cons x xs ih =>
    intro b n h
    cases n with
    | zero => exact hov new (x :: xs) b (by simpa using h)
    | succ n => simp only [List.cons_append, splice]; rw [ih b n (by simp at h; omega)]
theorem splice_skip {β : Type} (new : List β) : ∀ (a b : List β) (n : Nat), splice new (a ++ b) (a.length + n) = a ++ splice new b n
  | [], b, n => by simp
  | x :: a, b, n => by
    have : (x :: a).length + n = (a.length + n) + 1 := by simp; omega
    rw [this]; simp only [List.cons_append, splice]; rw [splice_skip new a b n]

theorem splice_flatten {items : List (List Value)} {sz i off : Nat} {it new : List Value} (hl : ∀ x ∈ items, x.length = sz)
    (hi : items[i]? = some it) (hn : off + new.length ≤ it.length) : splice new items.flatten (i * sz + off) = (items.set i (splice new it off)).flatten := by
  induction items generalizing i with
  | nil => simp at hi
  | cons x xs ih =>
    have hx := hl x (by simp)
    cases i with
    | zero =>
      simp at hi; subst hi
      simp only [List.flatten_cons, Nat.zero_mul, Nat.zero_add, List.set_cons_zero]
      exact splice_append new x xs.flatten off hn
    | succ i =>
      simp only [List.getElem?_cons_succ] at hi
      simp only [List.flatten_cons, List.set_cons_succ]
      rw [← ih (fun y hy => hl y (by simp [hy])) hi]
      have : (i + 1) * sz + off = x.length + (i * sz + off) := by rw [hx, Nat.succ_mul]; omega
      rw [this, splice_skip]

theorem storeK_spec {P : Program} {M : Mem} {t : TypeId} {a x : LV} {H : List LB} {K : List LB → Prop} (h : storeK P M t a x H K) :
    ∃ H', K H' ∧ H'.length = H.length ∧ ∀ e own w, Sat M e own w H → a.sc H.length → x.sc H.length → ∃ w', Sat M e own w' H' ∧ Ext own w own w' ∧
      (Instr.storeAt t (a.den e) (x.den e)).run P w = .ok () w' := by
  obtain ⟨i, hi, h⟩ := sizeK_spec h
  obtain ⟨vs, h, hvsc, hvden⟩ := cellsK_spec h
  obtain ⟨hlen, h⟩ := bif_elim h
  have hlen := Nat.eq_of_beq_eq_true hlen
  obtain ⟨h, hones⟩ := onesK_spec h
  have fin : ∀ e own w (b off : Nat) (cs : List Value) (ty : TypeId), Sat M e own w H → w.heap[b]? = some (.cells cs.toArray ty (0, 0)) → off + vs.length ≤ cs.length →
      ∃ w', (Instr.storeAt t (.pointer (some ⟨b, off, none⟩)) (x.den e)).run P w = .ok () w' ∧ w'.heap[b]? = some (.cells (splice (denL e vs) cs off).toArray ty (0, 0)) ∧
      w'.os = w.os ∧ w'.tape = w.tape ∧ w'.output = w.output ∧ w'.heap.size = w.heap.size ∧ ∀ k, k ≠ b → w'.heap[k]? = w.heap[k]? := by
    intro e own w b off cs ty hs hb hle
    obtain ⟨w', h1, h2⟩ := run_storeCells (P := P) (denL e vs) w b off 0 cs ty hb (by rw [denL_length]; omega) (hones e hs.one)
    refine ⟨w', ?_, by simpa using h2⟩
    simp only [Instr.storeAt, Instr.sureAddr, Sem.run_bind, Sem.run_pure, Result.andThen_ok, storeVar, run_sizeOf hi, hvden e hs.one]
    rw [if_neg (by simp [denL_length, hlen])]
    simpa using h1
  match a, h with
  | .ptr l off, h =>
    obtain ⟨B, hB, h⟩ := getK_spec h
    match B, hB, h with
    | .cells cs ty, hB, h =>
      obtain ⟨hle, h⟩ := spliceK_spec h
      obtain ⟨_, h⟩ := setK_spec h
      refine ⟨_, h, by simp, fun e own w hs _ hx => ?_⟩
      obtain ⟨⟨ho, hb⟩, hsc⟩ := hs.bl l _ hB
      obtain ⟨w', h1, h2, h3, h4, h5, h6, h7⟩ := fin e own w (e.b l) off (denL e cs) ty hs hb (by rw [denL_length]; omega)
      refine ⟨w', ?_, Ext.write (l := l) h3 h4 h5 (by omega) (fun k _ hk => h7 k (fun he => hk ((ho k).2 he))), h1⟩
      refine hs.set hB (by omega) (fun k _ hk => h7 k (fun he => hk ((ho k).2 he))) ⟨ho, ?_⟩ ?_
      · rw [denL_splice]; exact h2
      · simp only [LB.sc]; exact scL_splice (hvsc _ hx) hsc
  | .at l sz j off, h =>
    obtain ⟨B, hB, h⟩ := getK_spec h
    have key : ∀ e own w (items : List (List Value)) (ty : TypeId) (it : List Value), Sat M e own w H → (LB.list sz items ty).sat e l (own l) w → items[j]? = some it → off + vs.length ≤ it.length →
        ∃ w', (LB.list sz (items.set j (splice (denL e vs) it off)) ty).sat e l (own l) w' ∧ (Instr.storeAt t ((LV.at l sz j off).den e) (x.den e)).run P w = .ok () w' ∧
        w'.os = w.os ∧ w'.tape = w.tape ∧ w'.output = w.output ∧ w.heap.size ≤ w'.heap.size ∧ ∀ k, ¬ own l k → w'.heap[k]? = w.heap[k]? := by
      intro e own w items ty it hs hsat hit hle
      obtain ⟨ho, hbl, hit2, hown⟩ := hsat
      have hle' : off + (denL e vs).length ≤ it.length := by rw [denL_length]; exact hle
      have hjlt := (List.getElem?_eq_some_iff.1 hit).1
      have hne : (e.s l).ownBlock ≠ none := by
        intro hnone
        rcases hown.2 with ⟨_, h0⟩ | ⟨g, cap, cur, hv, _⟩
        · omega
        · rw [hv] at hnone; simp [Value.ownBlock] at hnone
      have hbl := hbl hne
      rcases hown.2 with ⟨_, h0⟩ | ⟨g, cap, cur, hv, hg0, hg, hncap, hcap, hcur, htake⟩
      · omega
      have hgb : g = e.b l := by rw [hv] at hbl; simpa [Value.ownBlock] using hbl
      subst hgb
      have hitl := hit2 it (List.mem_of_getElem? hit)
      have hbound : j * sz + sz ≤ items.length * sz := by
        have : (j + 1) * sz ≤ items.length * sz := Nat.mul_le_mul_right _ hjlt
        rw [Nat.succ_mul] at this; exact this
      have hcl : items.length * sz ≤ cur.toList.length := by
        simp [hcur]; exact Nat.mul_le_mul_right _ hncap
      obtain ⟨w', h1, h2, h3, h4, h5, h6, h7⟩ := fin e own w (e.b l) (j * sz + off) cur.toList ty hs (by simpa using hg) (by omega)
      refine ⟨w', ⟨ho, fun _ => hbl, ?_, ?_, ?_⟩, h1, h3, h4, h5, by omega, fun k hk => h7 k (fun he => hk ((ho k).2 (by rw [hbl, he])))⟩
      · intro y hy
        rcases List.mem_or_eq_of_mem_set hy with hy | rfl
        · exact hit2 y hy
        · rw [splice_length]; exact hitl
      · have := hown.1
        rw [← splice_flatten hit2 hit hle', splice_length, List.length_set]; exact this
      · refine .inr ⟨e.b l, cap, (splice (denL e vs) cur.toList (j * sz + off)).toArray, by rw [List.length_set]; exact hv, Nat.zero_le _, ?_, by rw [List.length_set]; exact hncap, hcap, ?_, ?_⟩
        · rw [h2]
        · simp [splice_length, hcur]
        · rw [List.length_set, ← splice_flatten hit2 hit hle', ← htake]
          have e1 : cur.toList = cur.toList.take (items.length * sz) ++ cur.toList.drop (items.length * sz) := (List.take_append_drop _ _).symm
          have e2 : splice (denL e vs) cur.toList (j * sz + off) = splice (denL e vs) (cur.toList.take (items.length * sz)) (j * sz + off) ++ cur.toList.drop (items.length * sz) := by
            conv => lhs; rw [e1]
            exact splice_append _ _ _ _ (by rw [List.length_take]; omega)
          rw [List.toList_toArray, e2, List.take_append_of_le_length (by rw [splice_length, List.length_take]; omega), List.take_of_length_le (by rw [splice_length, List.length_take]; omega)]
    match B, hB, h with
    | .list sz' items ty, hB, h =>
      obtain ⟨hsz, h9⟩ := bif_elim h
      have hsz := Nat.eq_of_beq_eq_true hsz
      clear h
      subst hsz
      obtain ⟨us, h0, rfl⟩ := rawLK_spec h9
      obtain ⟨it, hit, h⟩ := (M.itemOk h0).out
      obtain ⟨hle, h⟩ := spliceK_spec h
      have h := M.putOk h
      obtain ⟨_, h⟩ := setK_spec h
      refine ⟨_, h, by simp, fun e own w hs _ hx => ?_⟩
      obtain ⟨w', k1, k2, k3, k4, k5, k6, k7⟩ := key e own w items ty it hs (hs.bl l _ hB).1 hit (by simpa using hle)
      rw [denL_v] at k1
      exact ⟨w', hs.set hB k6 (fun k _ hk => k7 k hk) k1 trivial, Ext.write (l := l) k3 k4 k5 k6 (fun k _ hk => k7 k hk), k2⟩
    | .rows sz' items ty, hB, h =>
      obtain ⟨hsz, h9⟩ := bif_elim h
      have hsz := Nat.eq_of_beq_eq_true hsz
      clear h
      subst hsz
      obtain ⟨it, hit, h⟩ := getK_spec h9
      obtain ⟨hle, h⟩ := spliceK_spec h
      obtain ⟨_, h⟩ := setK_spec h
      obtain ⟨_, h⟩ := setK_spec h
      refine ⟨_, h, by simp, fun e own w hs _ hx => ?_⟩
      obtain ⟨hsat, hsc⟩ := hs.bl l _ hB
      obtain ⟨w', k1, k2, k3, k4, k5, k6, k7⟩ := key e own w _ ty (denL e it) hs (LB.rows_sat.1 hsat) (by rw [List.getElem?_map, hit]; rfl) (by rw [denL_length]; exact hle)
      rw [← denL_splice, ← List.map_set] at k1
      refine ⟨w', hs.set hB k6 (fun k _ hk => k7 k hk) (LB.rows_sat.2 k1) ?_, Ext.write (l := l) k3 k4 k5 k6 (fun k _ hk => k7 k hk), k2⟩
      intro y hy
      rcases List.mem_or_eq_of_mem_set hy with hy | rfl
      · exact hsc y hy
      · exact scL_splice (hvsc _ hx) (hsc it (List.mem_of_getElem? hit))
end Go.Lx
