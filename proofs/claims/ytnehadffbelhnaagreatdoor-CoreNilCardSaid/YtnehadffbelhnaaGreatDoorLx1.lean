/-
  The symbolic executor Lx, part 1: local values, local heaps, what they mean in a world; renaming; extension.
-/
import Derived.WalkKit
import Derived.KernelRfl
namespace Go.Lx
open Go.RowKit

/-- A value over named locations. `v x` is a value of the model itself (a number, a bool, a string, nil; or what leads to memory that is only read). -/
inductive LV where
  | v (x : Value)
  | ptr (l off : Nat)
  | at (l sz i off : Nat)
  | root (l : Nat)
  | sl (l off len cap : Nat)
  | sub (l sz prev i len : Nat) (lim : Option Nat)
  | func (fn : Fn) (first captured : List LV)
  | iface (t : TypeId) (x : LV)
  | agg (cs : List LV)
  | tuple (cs : List LV)
  deriving Inhabited

/-- What a location is in the world: its block; its own value. -/
structure Env where
  b : Nat → Nat
  s : Nat → Value

/-- A part of a row: from its i-th item on; its capacity is limited, or goes to the row's end. (Where nothing is left of the capacity, the pointer stays where it was.) -/
def subVal (v : Value) (sz prev i len : Nat) (lim : Option Nat) : Value :=
  match v with
  | .slice (some a) _ c => .slice (some ⟨a.block, a.off + (if c = i then prev else i) * sz, none⟩) len (lim.getD (c - i))
  | _ => .slice none len (lim.getD 0)

mutual
def LV.den (e : Env) : LV → Value
  | .v x => x
  | .ptr l off => .pointer (some ⟨e.b l, off, none⟩)
  | .at l sz i off => .pointer (some ⟨e.b l, i * sz + off, none⟩)
  | .root l => e.s l
  | .sl l off len cap => .slice (some ⟨e.b l, off, none⟩) len cap
  | .sub l sz p i len lim => subVal (e.s l) sz p i len lim
  | .func fn f c => .func fn (denL e f).toArray (denL e c).toArray
  | .iface t x => .iface t (LV.den e x)
  | .agg cs => .agg (denL e cs).toArray
  | .tuple cs => .tuple (denL e cs).toArray
def denL (e : Env) : List LV → List Value
  | [] => []
  | x :: xs => LV.den e x :: denL e xs
end

mutual
def LV.sc (n : Nat) : LV → Prop
  | .v _ => True
  | .ptr l _ => l < n
  | .at l _ _ _ => l < n
  | .root l => l < n
  | .sl l _ _ _ => l < n
  | .sub l _ _ _ _ _ => l < n
  | .func _ f c => scL n f ∧ scL n c
  | .iface _ x => LV.sc n x
  | .agg cs => scL n cs
  | .tuple cs => scL n cs
def scL (n : Nat) : List LV → Prop
  | [] => True
  | x :: xs => LV.sc n x ∧ scL n xs
end

/-- Renaming: location l becomes the l-th of m. -/
def at_ (m : List Nat) (l : Nat) : Nat := m.getD l 0
mutual
def LV.ren (m : List Nat) : LV → LV
  | .v x => .v x
  | .ptr l off => .ptr (at_ m l) off
  | .at l sz i off => .at (at_ m l) sz i off
  | .root l => .root (at_ m l)
  | .sl l off len cap => .sl (at_ m l) off len cap
  | .sub l sz p i len lim => .sub (at_ m l) sz p i len lim
  | .func fn f c => .func fn (renL m f) (renL m c)
  | .iface t x => .iface t (LV.ren m x)
  | .agg cs => .agg (renL m cs)
  | .tuple cs => .tuple (renL m cs)
def renL (m : List Nat) : List LV → List LV
  | [] => []
  | x :: xs => LV.ren m x :: renL m xs
end

theorem denL_eq_map (e : Env) (l : List LV) : denL e l = l.map (LV.den e) := by
  induction l with
  | nil => simp [denL]
  | cons x xs ih => simp [denL, ih]
theorem scL_iff (n : Nat) (l : List LV) : scL n l ↔ ∀ x ∈ l, x.sc n := by
  induction l with
  | nil => simp [scL]
  | cons x xs ih => simp [scL, ih]
theorem renL_eq_map (m : List Nat) (l : List LV) : renL m l = l.map (LV.ren m) := by
  induction l with
  | nil => simp [renL]
  | cons x xs ih => simp [renL, ih]

mutual
theorem LV.sc_mono {n n' : Nat} (h : n ≤ n') : ∀ x : LV, x.sc n → x.sc n'
  | .v _, _ => by simp [LV.sc]
  | .ptr .., k | .at .., k | .root .., k | .sl .., k | .sub .., k => by simp only [LV.sc] at k ⊢; omega
  | .func _ f c, k => by simp only [LV.sc] at k ⊢; exact ⟨scL_mono h f k.1, scL_mono h c k.2⟩
  | .iface _ x, k => by simp only [LV.sc] at k ⊢; exact LV.sc_mono h x k
  | .agg cs, k | .tuple cs, k => by simp only [LV.sc] at k ⊢; exact scL_mono h cs k
theorem scL_mono {n n' : Nat} (h : n ≤ n') : ∀ x : List LV, scL n x → scL n' x
  | [], _ => by simp [scL]
  | x :: xs, k => by simp only [scL] at k ⊢; exact ⟨LV.sc_mono h x k.1, scL_mono h xs k.2⟩
end

/-- Two environments that agree below n. -/
structure Agree (e e' : Env) (n : Nat) : Prop where
  b : ∀ i, i < n → e.b i = e'.b i
  s : ∀ i, i < n → e.s i = e'.s i
theorem Agree.refl (e : Env) (n : Nat) : Agree e e n := ⟨fun _ _ => rfl, fun _ _ => rfl⟩
theorem Agree.trans {e e' e'' : Env} {n n' : Nat} (h : Agree e e' n) (k : Agree e' e'' n') (hn : n ≤ n') : Agree e e'' n :=
  ⟨fun i hi => (h.b i hi).trans (k.b i (by omega)), fun i hi => (h.s i hi).trans (k.s i (by omega))⟩
theorem Agree.mono {e e' : Env} {n n' : Nat} (h : Agree e e' n') (hn : n ≤ n') : Agree e e' n :=
  ⟨fun i hi => h.b i (by omega), fun i hi => h.s i (by omega)⟩
theorem Agree.symm {e e' : Env} {n : Nat} (h : Agree e e' n) : Agree e' e n :=
  ⟨fun i hi => (h.b i hi).symm, fun i hi => (h.s i hi).symm⟩

mutual
theorem LV.den_agree {e e' : Env} {n : Nat} (h : Agree e e' n) : ∀ x : LV, x.sc n → x.den e = x.den e'
  | .v _, _ => by simp [LV.den]
  | .ptr l _, k | .at l .., k | .sl l .., k => by simp only [LV.sc] at k; simp only [LV.den, h.b l k]
  | .root l, k | .sub l .., k => by simp only [LV.sc] at k; simp only [LV.den, h.s l k]
  | .func _ f c, k => by simp only [LV.sc] at k; simp only [LV.den, denL_agree h f k.1, denL_agree h c k.2]
  | .iface _ x, k => by simp only [LV.sc] at k; simp only [LV.den, LV.den_agree h x k]
  | .agg cs, k | .tuple cs, k => by simp only [LV.sc] at k; simp only [LV.den, denL_agree h cs k]
theorem denL_agree {e e' : Env} {n : Nat} (h : Agree e e' n) : ∀ x : List LV, scL n x → denL e x = denL e' x
  | [], _ => by simp [denL]
  | x :: xs, k => by simp only [scL] at k; simp only [denL, LV.den_agree h x k.1, denL_agree h xs k.2]
end

/-- The environment of the locations that m lists. -/
def Env.via (e : Env) (m : List Nat) : Env := ⟨fun i => e.b (at_ m i), fun i => e.s (at_ m i)⟩
mutual
theorem LV.den_ren (e : Env) (m : List Nat) : ∀ x : LV, (x.ren m).den e = x.den (e.via m)
  | .v _ | .ptr .. | .at .. | .root .. | .sl .. | .sub .. => by simp [LV.ren, LV.den, Env.via]
  | .func _ f c => by simp only [LV.ren, LV.den, denL_ren e m f, denL_ren e m c]
  | .iface _ x => by simp only [LV.ren, LV.den, LV.den_ren e m x]
  | .agg cs | .tuple cs => by simp only [LV.ren, LV.den, denL_ren e m cs]
theorem denL_ren (e : Env) (m : List Nat) : ∀ x : List LV, denL e (renL m x) = denL (e.via m) x
  | [] => by simp [renL, denL]
  | x :: xs => by simp only [renL, denL, LV.den_ren e m x, denL_ren e m xs]
end
mutual
theorem LV.sc_ren {m : List Nat} {k n : Nat} (hm : ∀ i, i < k → at_ m i < n) : ∀ x : LV, x.sc k → (x.ren m).sc n
  | .v _, _ => by simp [LV.ren, LV.sc]
  | .ptr l _, h | .at l .., h | .root l, h | .sl l .., h | .sub l .., h => by simp only [LV.sc, LV.ren] at h ⊢; exact hm l h
  | .func _ f c, h => by simp only [LV.sc, LV.ren] at h ⊢; exact ⟨scL_ren hm f h.1, scL_ren hm c h.2⟩
  | .iface _ x, h => by simp only [LV.sc, LV.ren] at h ⊢; exact LV.sc_ren hm x h
  | .agg cs, h | .tuple cs, h => by simp only [LV.sc, LV.ren] at h ⊢; exact scL_ren hm cs h
theorem scL_ren {m : List Nat} {k n : Nat} (hm : ∀ i, i < k → at_ m i < n) : ∀ x : List LV, scL k x → scL n (renL m x)
  | [], _ => by simp [renL, scL]
  | x :: xs, h => by simp only [scL, renL] at h ⊢; exact ⟨LV.sc_ren hm x h.1, scL_ren hm xs h.2⟩
end

/-- A thing in memory of which only a predicate is known: of its own value, of the blocks that it owns, of the world. -/
structure Res where
  holds : Value → (Nat → Prop) → World → Prop
  one : ∀ {v : Value} {own : Nat → Prop} {w : World}, holds v own w → v.oneCell' = true
  keeps : ∀ {v : Value} {own : Nat → Prop} {w w' : World}, holds v own w → w.heap.size ≤ w'.heap.size →
    (∀ k, own k → k < w.heap.size → w'.heap[k]? = w.heap[k]?) → holds v own w'

/-- An entry of a map. -/
structure ME where
  key : Value
  val : LV
  born : Nat
def ME.den (e : Env) (m : ME) : MapEntry := { key := m.key, val := m.val.den e, born := m.born }
def ME.ren (r : List Nat) (m : ME) : ME := { m with val := m.val.ren r }

/-- What lies at a location. -/
inductive LB where
  | map (es : List ME) (clock : Nat)
  | cells (cs : List LV) (ty : TypeId)
  | list (sz : Nat) (items : List (List Value)) (ty : TypeId)
  | rows (sz : Nat) (items : List (List LV)) (ty : TypeId)
  | res (R : Res)
  | gone

def LB.sc (n : Nat) : LB → Prop
  | .cells cs _ => scL n cs
  | .rows _ items _ => ∀ it ∈ items, scL n it
  | .map es _ => ∀ m ∈ es, m.val.sc n
  | _ => True
def LB.ren (m : List Nat) : LB → LB
  | .cells cs ty => .cells (renL m cs) ty
  | .rows sz items ty => .rows sz (items.map (renL m)) ty
  | .map es c => .map (es.map (ME.ren m)) c
  | B => B

/-- A row of items as cells. -/
def LB.sat (e : Env) (l : Nat) (own : Nat → Prop) (w : World) : LB → Prop
  | .cells cs ty => (∀ k, own k ↔ k = e.b l) ∧ w.heap[e.b l]? = some (.cells (denL e cs).toArray ty (0, 0))
  | .list sz items ty => (∀ k, own k ↔ (e.s l).ownBlock = some k) ∧ ((e.s l).ownBlock ≠ none → (e.s l).ownBlock = some (e.b l)) ∧
      (∀ it ∈ items, it.length = sz) ∧ w.ownsRow 0 ty sz (e.s l) items.length items.flatten
  | .rows sz items ty => (∀ k, own k ↔ (e.s l).ownBlock = some k) ∧ ((e.s l).ownBlock ≠ none → (e.s l).ownBlock = some (e.b l)) ∧
      (∀ it ∈ items.map (denL e), it.length = sz) ∧ w.ownsRow 0 ty sz (e.s l) (items.map (denL e)).length (items.map (denL e)).flatten
  | .map es c => e.s l = .map (some (e.b l)) ∧ (∀ k, own k ↔ k = e.b l) ∧ w.heap[e.b l]? = some (.map (es.map (ME.den e)).toArray c)
  | .res R => R.holds (e.s l) own w
  | .gone => ∀ k, ¬ own k

/-- What is only read: an address gives a value. -/
abbrev Rom := Addr → Option Value

/-- Cells that are only read. -/
structure RdK (M : Rom) (a : Addr) (n : Nat) (K : List LV → Prop) : Prop where
  out : ∃ us : List Value, us.length = n ∧ (∀ j u, us[j]? = some u → M (a.add j) = some u) ∧ K (us.map .v)
structure ItemK (items : List (List Value)) (i : Nat) (K : List Value → Prop) : Prop where
  out : ∃ it, items[i]? = some it ∧ K it
/-- A computation that comes to a value in every world. -/
structure RunsTo (P : Program) (s : Sem Value) (K : Value → Prop) : Prop where
  out : ∃ y, (∀ w, s.run P w = .ok y w) ∧ K y

def oneAll (items : List (List Value)) : Prop := ∀ it ∈ items, ∀ v ∈ it, v.oneCell' = true
/-- What is only read; and how items, reads, and == of what is not of one kind, are gone about. -/
structure Mem where
  rom : Rom
  item : List (List Value) → Nat → (List Value → Prop) → Prop
  itemOk : ∀ {items : List (List Value)} {i : Nat} {K : List Value → Prop}, item items i K → ItemK items i K
  itemEx : ∀ {items : List (List Value)} {i : Nat} {K : List Value → Prop}, item items i K → ∃ it, K it ∧ ∀ K', K' it → item items i K'
  rd : Addr → Nat → (List LV → Prop) → Prop
  rdOk : ∀ {a : Addr} {n : Nat} {K : List LV → Prop}, rd a n K → RdK rom a n K
  rdEx : ∀ {a : Addr} {n : Nat} {K : List LV → Prop}, rd a n K → ∃ us, K us ∧ ∀ K', K' us → rd a n K'
  bin : Program → BinOp → TypeId → Operand → Operand → Value → Value → (Value → Prop) → Prop
  chk : (p : Prop) → Decidable p → Prop → Prop
  chkOk : ∀ {p : Prop} {d : Decidable p} {K : Prop}, chk p d K → p ∧ K
  app : ∀ {β : Type}, List β → List β → (List β → Prop) → Prop
  appOk : ∀ {β : Type} {a b : List β} {K : List β → Prop}, app a b K → K (a ++ b)
  put : List (List Value) → Nat → List Value → (List (List Value) → Prop) → Prop
  putOk : ∀ {l : List (List Value)} {i : Nat} {x : List Value} {K : List (List Value) → Prop}, put l i x K → K (l.set i x)
  lay : List (List Value) → (List (List Value) → Prop) → Prop
  layOk : ∀ {l : List (List Value)} {K : List (List Value) → Prop}, lay l K → K l
  eqv : LV → LV → Prop → Prop
  eqvOk : ∀ {x y : LV} {K : Prop}, eqv x y K → x = y ∧ K
  eqB : LB → LB → Prop → Prop
  eqBOk : ∀ {x y : LB} {K : Prop}, eqB x y K → x = y ∧ K
  ones : List (List Value) → Prop → Prop
  onesOk : ∀ {l : List (List Value)} {K : Prop}, ones l K → oneAll l ∧ K
  binOk : ∀ {P : Program} {op : BinOp} {t : TypeId} {xo yo : Operand} {X Y : Value} {K : Value → Prop}, bin P op t xo yo X Y K → RunsTo P (do eqGuard op t xo yo X Y; binOp op t X Y) K
/-- All is left to whoever proves. -/
def Mem.sym (M : Rom) : Mem where
  rom := M
  item items i K := ItemK items i K
  itemOk h := h
  itemEx h := let ⟨it, h1, h2⟩ := h.out; ⟨it, h2, fun _ h => ⟨it, h1, h⟩⟩
  rd a n K := RdK M a n K
  rdOk h := h
  rdEx h := let ⟨us, h1, h2, h3⟩ := h.out; ⟨_, h3, fun _ h => ⟨us, h1, h2, h⟩⟩
  bin P op t xo yo X Y K := RunsTo P (do eqGuard op t xo yo X Y; binOp op t X Y) K
  binOk h := h
  chk p _ K := p ∧ K
  chkOk h := h
  app a b K := K (a ++ b)
  appOk h := h
  put l i x K := K (l.set i x)
  putOk h := h
  lay l K := K l
  layOk h := h
  eqv x y K := x = y ∧ K
  eqvOk h := h
  eqB x y K := x = y ∧ K
  eqBOk h := h
  ones l K := oneAll l ∧ K
  onesOk h := h

structure Sat (M : Mem) (e : Env) (own : Nat → Nat → Prop) (w : World) (H : List LB) : Prop where
  bl : ∀ (i : Nat) (B : LB), H[i]? = some B → B.sat e i (own i) w ∧ B.sc H.length
  dj : ∀ i j k, own i k → own j k → i = j
  lt : ∀ i k, own i k → k < w.heap.size
  out : ∀ i, H.length ≤ i → ∀ k, ¬ own i k
  ro : ∀ a u, M.rom a = some u → w.cell? a = some u ∧ ∀ i, ¬ own i a.block
  one : ∀ i, (e.s i).oneCell' = true

/-- The world w' comes from w by work on what own owns, and on new blocks. -/
structure Ext (own : Nat → Nat → Prop) (w : World) (own' : Nat → Nat → Prop) (w' : World) : Prop where
  os : w'.os = w.os
  tape : w'.tape = w.tape
  output : w'.output = w.output
  size : w.heap.size ≤ w'.heap.size
  block : ∀ k, k < w.heap.size → (∀ i, ¬ own i k) → w'.heap[k]? = w.heap[k]?
  own : ∀ i k, own' i k → k < w.heap.size → ∃ j, own j k

theorem Ext.refl (own : Nat → Nat → Prop) (w : World) : Ext own w own w :=
  ⟨rfl, rfl, rfl, Nat.le_refl _, fun _ _ _ => rfl, fun i _ h _ => ⟨i, h⟩⟩
theorem Ext.trans {o1 o2 o3 : Nat → Nat → Prop} {w1 w2 w3 : World} (h : Ext o1 w1 o2 w2) (k : Ext o2 w2 o3 w3) : Ext o1 w1 o3 w3 :=
  ⟨k.os.trans h.os, k.tape.trans h.tape, k.output.trans h.output, Nat.le_trans h.size k.size,
   fun b hb hn => (k.block b (by have := h.size; omega) (fun i hi => by
      obtain ⟨j, hj⟩ := h.own i b hi hb; exact hn j hj)).trans (h.block b hb hn),
   fun i b hi hb => by
      obtain ⟨j, hj⟩ := k.own i b hi (by have := h.size; omega)
      exact h.own j b hj hb⟩
theorem Ext.drew {o : Nat → Nat → Prop} {w : World} : Ext o w o w.drew :=
  ⟨rfl, rfl, rfl, Nat.le_refl _, fun _ _ _ => rfl, fun i _ h _ => ⟨i, h⟩⟩

/-- What is only read stays so. -/
theorem Ext.ro {M : Rom} {own own' : Nat → Nat → Prop} {w w' : World} (h : Ext own w own' w')
    (hr : ∀ a u, M a = some u → w.cell? a = some u ∧ ∀ i, ¬ own i a.block) :
    ∀ a u, M a = some u → w'.cell? a = some u ∧ ∀ i, ¬ own' i a.block := by
  intro a u hu
  obtain ⟨hc, hn⟩ := hr a u hu
  have hlt := World.block_lt_of_cell? w a hc
  refine ⟨(World.cell?_of_block (h.block _ hlt hn)).trans hc, fun i hi => ?_⟩
  obtain ⟨j, hj⟩ := h.own i _ hi hlt
  exact hn j hj

theorem LB.rows_sat {e : Env} {l : Nat} {own : Nat → Prop} {w : World} {sz : Nat} {items : List (List LV)} {ty : TypeId} :
    (LB.rows sz items ty).sat e l own w ↔ (LB.list sz (items.map (denL e)) ty).sat e l own w := Iff.rfl

/-- A block stays as it is where nothing that it owns is written. -/
theorem LB.list_keep {e : Env} {l : Nat} {own : Nat → Prop} {w w' : World} {sz : Nat} {items : List (List Value)} {ty : TypeId} (h : (LB.list sz items ty).sat e l own w)
    (hk : ∀ k, own k → k < w.heap.size → w'.heap[k]? = w.heap[k]?) : (LB.list sz items ty).sat e l own w' := by
  obtain ⟨h1, h2, h3, h4⟩ := h
  refine ⟨h1, h2, h3, h4.1, ?_⟩
  rcases h4.2 with hn | ⟨g, cap, cur, hv, hb, hg, rest⟩
  · exact .inl hn
  · refine .inr ⟨g, cap, cur, hv, hb, ?_, rest⟩
    rw [hk g ((h1 g).2 (by rw [hv]; rfl)) (Array.getElem?_eq_some_iff.1 hg).1]; exact hg
theorem LB.sat_keep {e : Env} {l : Nat} {own : Nat → Prop} {w w' : World} : ∀ {B : LB}, B.sat e l own w →
    w.heap.size ≤ w'.heap.size → (∀ k, own k → k < w.heap.size → w'.heap[k]? = w.heap[k]?) → B.sat e l own w'
  | .cells cs ty, ⟨h1, h2⟩, _, hk => ⟨h1, by rw [hk _ ((h1 _).2 rfl) (Array.getElem?_eq_some_iff.1 h2).1]; exact h2⟩
  | .list sz items ty, h, _, hk => LB.list_keep h hk
  | .rows sz items ty, h, _, hk => LB.rows_sat.2 (LB.list_keep (LB.rows_sat.1 h) hk)
  | .map es c, ⟨h0, h1, h2⟩, _, hk => ⟨h0, h1, by rw [hk _ ((h1 _).2 rfl) (Array.getElem?_eq_some_iff.1 h2).1]; exact h2⟩
  | .res R, h, hs, hk => R.keeps h hs hk
  | .gone, h, _, _ => h

theorem rows_agree {e e' : Env} {n : Nat} (h : Agree e e' n) {items : List (List LV)} (hs : ∀ it ∈ items, scL n it) : items.map (denL e) = items.map (denL e') :=
  List.map_congr_left fun it hi => denL_agree h it (hs it hi)

theorem map_agree {e e' : Env} {n : Nat} (h : Agree e e' n) {es : List ME} (hs : ∀ m ∈ es, m.val.sc n) : es.map (ME.den e) = es.map (ME.den e') :=
  List.map_congr_left fun m hm => by simp only [ME.den, LV.den_agree h m.val (hs m hm)]

/-- It says the same under an environment that agrees. -/
theorem LB.sat_agree {e e' : Env} {l n : Nat} {own : Nat → Prop} {w : World} (h : Agree e e' n) (hl : l < n) :
    ∀ {B : LB}, B.sc n → B.sat e l own w → B.sat e' l own w
  | .cells cs ty, hc, ⟨h1, h2⟩ => by
    simp only [LB.sc] at hc
    simp only [LB.sat, ← h.b l hl, ← denL_agree h cs hc]; exact ⟨h1, h2⟩
  | .list sz items ty, _, h1 => by simp only [LB.sat, ← h.b l hl, ← h.s l hl] at h1 ⊢; exact h1
  | .rows sz items ty, hc, h1 => by
    have hc : ∀ it ∈ items, scL n it := hc
    simp only [LB.sat, ← h.b l hl, ← h.s l hl, ← rows_agree h hc] at h1 ⊢; exact h1
  | .map es c, hc, h1 => by
    have hc : ∀ m ∈ es, m.val.sc n := hc
    simp only [LB.sat, ← h.b l hl, ← h.s l hl, ← map_agree h hc] at h1 ⊢; exact h1
  | .res R, _, h1 => by simp only [LB.sat, ← h.s l hl] at h1 ⊢; exact h1
  | .gone, _, h1 => h1

theorem LB.sc_mono {n n' : Nat} (h : n ≤ n') : ∀ {B : LB}, B.sc n → B.sc n'
  | .cells cs _, k => by simp only [LB.sc] at k ⊢; exact scL_mono h cs k
  | .rows _ items _, k => fun it hi => scL_mono h it (k it hi)
  | .map es _, k => fun m hm => LV.sc_mono h _ (k m hm)
  | .list .., _ | .res _, _ | .gone, _ => trivial

/-- Sat of a world in which nothing owned was written. -/
theorem Sat.keep {M : Mem} {e : Env} {own : Nat → Nat → Prop} {w w' : World} {H : List LB} (h : Sat M e own w H)
    (hs : w.heap.size ≤ w'.heap.size) (hk : ∀ k, k < w.heap.size → w'.heap[k]? = w.heap[k]?) : Sat M e own w' H :=
  ⟨fun i B hB => ⟨LB.sat_keep (h.bl i B hB).1 hs (fun k _ hl => hk k hl), (h.bl i B hB).2⟩, h.dj,
   fun i k hi => Nat.lt_of_lt_of_le (h.lt i k hi) hs, h.out,
   fun a u hu => ⟨(World.cell?_of_block (hk _ (World.block_lt_of_cell? w a (h.ro a u hu).1))).trans (h.ro a u hu).1, (h.ro a u hu).2⟩, h.one⟩
theorem Sat.drew {M : Mem} {e : Env} {own : Nat → Nat → Prop} {w : World} {H : List LB} (h : Sat M e own w H) : Sat M e own w.drew H :=
  h.keep (Nat.le_refl _) (fun _ _ => rfl)

/-- A new location. -/
def Env.push (e : Env) (n : Nat) (b : Nat) (s : Value) : Env := ⟨fun i => if i = n then b else e.b i, fun i => if i = n then s else e.s i⟩
theorem Env.push_agree (e : Env) (n b : Nat) (s : Value) : Agree e (e.push n b s) n :=
  ⟨fun i hi => by simp only [Env.push]; rw [if_neg (by omega)], fun i hi => by simp only [Env.push]; rw [if_neg (by omega)]⟩
def ownPush (own : Nat → Nat → Prop) (n : Nat) (o : Nat → Prop) : Nat → Nat → Prop := fun i k => if i = n then o k else own i k

theorem Sat.push {M : Mem} {e : Env} {own : Nat → Nat → Prop} {w w' : World} {H : List LB} {B : LB} {b : Nat} {s : Value} {o : Nat → Prop}
    (h : Sat M e own w H) (hs : w.heap.size ≤ w'.heap.size) (hk : ∀ k, k < w.heap.size → w'.heap[k]? = w.heap[k]?)
    (ho : ∀ k, o k → w.heap.size ≤ k ∧ k < w'.heap.size) (hB : B.sat (e.push H.length b s) H.length o w') (hsc : B.sc (H.length + 1)) (h1 : s.oneCell' = true) :
    Sat M (e.push H.length b s) (ownPush own H.length o) w' (H ++ [B]) := by
  have h' := h.keep hs hk
  refine ⟨fun i B' hB' => ?_, fun i j k hi hj => ?_, fun i k hi => ?_, fun i hi k hk => ?_, fun a u hu => ?_, fun i => ?_⟩
  · rcases Nat.lt_or_ge i H.length with hi | hi
    · rw [List.getElem?_append_left hi] at hB'
      obtain ⟨h1, h2⟩ := h'.bl i B' hB'
      refine ⟨?_, LB.sc_mono (by simp) h2⟩
      have : ownPush own H.length o i = own i := by funext k; simp only [ownPush]; rw [if_neg (by omega)]
      rw [this]
      exact LB.sat_agree (e.push_agree H.length b s) hi h2 h1
    · rw [List.getElem?_append_right hi] at hB'
      have hi0 : i - H.length = 0 := by
        rcases Nat.eq_zero_or_pos (i - H.length) with h0 | h0
        · exact h0
        · rw [List.getElem?_eq_none (by simp; omega)] at hB'; cases hB'
      have hie : i = H.length := by omega
      subst hie
      simp at hB'
      subst hB'
      refine ⟨?_, by simpa using hsc⟩
      have : ownPush own H.length o H.length = o := by funext k; simp [ownPush]
      rw [this]; exact hB
  · simp only [ownPush] at hi hj
    split at hi <;> split at hj
    · omega
    · have := h.lt _ _ hj; have := (ho k hi).1; omega
    · have := h.lt _ _ hi; have := (ho k hj).1; omega
    · exact h.dj i j k hi hj
  · simp only [ownPush] at hi
    split at hi
    · exact (ho k hi).2
    · exact Nat.lt_of_lt_of_le (h.lt _ _ hi) hs
  · simp only [List.length_append, List.length_cons, List.length_nil] at hi
    simp only [ownPush] at hk
    rw [if_neg (by omega)] at hk
    exact h.out i (by omega) k hk
  · refine ⟨(h'.ro a u hu).1, fun i hi => ?_⟩
    simp only [ownPush] at hi
    split at hi
    · have := (ho _ hi).1
      have := World.block_lt_of_cell? w a (h.ro a u hu).1
      omega
    · exact (h.ro a u hu).2 i hi
  · simp only [Env.push]; split
    · exact h1
    · exact h.one i

theorem Ext.push {own : Nat → Nat → Prop} {w w' : World} {n : Nat} {o : Nat → Prop} (hg : Below w.heap.size w w')
    (ho : ∀ k, o k → w.heap.size ≤ k) : Ext own w (ownPush own n o) w' :=
  ⟨hg.os, hg.tape, hg.output, hg.size, fun k hk _ => hg.block k hk, fun i k hi hk => by
    simp only [ownPush] at hi
    split at hi
    · have := ho k hi; omega
    · exact ⟨i, hi⟩⟩

/-- A location's thing becomes another one, in its own blocks. -/
theorem Sat.set {M : Mem} {e : Env} {own : Nat → Nat → Prop} {w w' : World} {H : List LB} {B B' : LB} {l : Nat}
    (h : Sat M e own w H) (_hl : H[l]? = some B) (hs : w.heap.size ≤ w'.heap.size) (hk : ∀ k, k < w.heap.size → ¬ own l k → w'.heap[k]? = w.heap[k]?)
    (hB : B'.sat e l (own l) w') (hsc : B'.sc H.length) : Sat M e own w' (H.set l B') := by
  refine ⟨fun i X hX => ?_, h.dj, fun i k hi => Nat.lt_of_lt_of_le (h.lt _ _ hi) hs, fun i hi => h.out i (by simpa using hi), fun a u hu => ?_, h.one⟩
  · rw [List.length_set]
    rw [List.getElem?_set] at hX
    split at hX
    · rename_i hli; subst hli
      split at hX
      · cases hX; exact ⟨hB, hsc⟩
      · cases hX
    · rename_i hne
      obtain ⟨h1, h2⟩ := h.bl i X hX
      exact ⟨LB.sat_keep h1 hs (fun k hik hkl => hk k hkl (fun hlk => hne (h.dj _ _ k hlk hik))), h2⟩
  · obtain ⟨h1, h2⟩ := h.ro a u hu
    exact ⟨(World.cell?_of_block (hk _ (World.block_lt_of_cell? w a h1) (h2 l))).trans h1, h2⟩

theorem Ext.write {own : Nat → Nat → Prop} {w w' : World} {l : Nat} (hos : w'.os = w.os) (ht : w'.tape = w.tape) (hout : w'.output = w.output)
    (hs : w.heap.size ≤ w'.heap.size) (hk : ∀ k, k < w.heap.size → ¬ own l k → w'.heap[k]? = w.heap[k]?) : Ext own w own w' :=
  ⟨hos, ht, hout, hs, fun k hk' hn => hk k hk' (hn l), fun i _ h _ => ⟨i, h⟩⟩
end Go.Lx
